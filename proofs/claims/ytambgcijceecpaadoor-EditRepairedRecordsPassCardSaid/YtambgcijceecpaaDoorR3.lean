/- The walk of the law EditRepairedRecordsPass. Conditions: the library's table of powers of ten reads as it was laid. -/
import Derived.Test.YtambgcijceecpaaDoorR2
import Derived.Test.YtambgcijceecpaaDoorQB
import Derived.Test.YtambgcijceecpaaDoorPl
import Derived.StillTailTactics
import Derived.Deep.RegionHeld3
namespace Go.Proofs.YtambgcijceecpaaDoor
open Go.RowKit
set_option linter.unusedVariables false
abbrev rpr0 : Rpr := ([], [], 0)
theorem SlV.rprD {φ : Phi} {a : Option Addr} {cap : Nat} {xs : List Rpr} (h : SlV φ a cap xs) {k n : Nat} (hn : Hid (xs.length = n)) (hk : k < n) :
    ∃ b off, a = some ⟨b, off, none⟩ ∧ ∀ k, k < n → ∃ ar cr af cf, SlV φ ar cr (xs.getD k rpr0).1 ∧ SlV φ af cf (xs.getD k rpr0).2.1 ∧ ∀ w, Fz φ w → b < w.heap.size ∧ w.cell? ⟨b, off + k * 3, none⟩ = some (.slice ar (xs.getD k rpr0).1.length cr) ∧ w.cell? ⟨b, off + k * 3 + 1, none⟩ = some (.slice af (xs.getD k rpr0).2.1.length cf) ∧ w.cell? ⟨b, off + k * 3 + 2, none⟩ = some (.int .i64 (xs.getD k rpr0).2.2) := by
  obtain ⟨b, off, ha, hc⟩ := h.cellsD rpr0 hn hk
  refine ⟨b, off, ha, fun k hk => ?_⟩
  obtain ⟨cs, ⟨c, d, rfl, ⟨ar, cr, rfl, h1⟩, c2, d2, rfl, ⟨af, cf, rfl, h2⟩, h3⟩, hj⟩ := hc k hk
  cases h3
  refine ⟨ar, cr, af, cf, h1, h2, fun w hw => ?_⟩
  have j0 := hj 0 (by simp)
  have j1 := hj 1 (by simp)
  have j2 := hj 2 (by simp)
  simp [Rep.size] at j0 j1 j2
  exact ⟨hw.lt j0, hw.cell j0, hw.cell j1, hw.cell j2⟩
theorem repsF_zero {fs : List Fld} {es : List Edt} {l : List (List Int)} {seed : ByteArray} (h : repsF fs es l seed = 0) : planF fs es = 0 ∧ listF fs.length l = 0 ∧ (l.length ≠ 0 → (allR fs fs.length).any (fun x => passB fs es x fs.length es.length) = true) := by
  unfold repsF at h
  split at h
  · next h1 => exact absurd h h1
  · next h1 =>
    split at h
    · next h2 => exact absurd h h2
    · next h2 =>
      split at h
      · cases h
      · next h3 =>
        refine ⟨by simpa using h1, by simpa using h2, fun hl => ?_⟩
        cases hq : (allR fs fs.length).any (fun x => passB fs es x fs.length es.length) with
        | true => rfl
        | false => exact absurd ⟨hl, hq⟩ h3
theorem listF_rec {n : Nat} {l : List (List Int)} (h : listF n l = 0) {i : Nat} (hi : i < l.length) : recF n (l.getD i []) = 0 := by
  unfold listF at h
  split at h
  · cases h
  · exact scan_all _ h i hi
structure RsS (w0 : World) (φ : Phi) (bp : Nat) (cs : Array Value) (bd : Nat) (ds : Array Value) (w : World) : Prop where
  b : BxSt w0 φ bp cs 25 w
  d : Blk w bd ds 42
theorem RsS.callB {w0 w w' : World} {φ : Phi} {bp bd : Nat} {cs ds : Array Value} (h : RsS w0 φ bp cs bd ds w) (hb : Below w.heap.size w w') : RsS w0 φ bp cs bd ds w' := ⟨h.b.callB hb, h.d.callB hb⟩
/-- Passes, in a region whose order is drawn: what the region loads is there again behind it. -/
theorem Passes_S {w0 : World} {φ : Phi} {bp bd bq oq : Nat} {n : Nat} {a : Option Addr} {cap : Nat} {fs : List Fld} {m : Nat} {ae : Option Addr} {ce : Nat} {es : List Edt} (s : SlV φ a cap fs) (hn : Hid (fs.length = n)) (hm : n ≤ 9223372036854775807) (hg : Hid (∀ x ∈ fs, FldG x)) (se : SlV φ ae ce es) (hne : Hid (es.length = m)) (hme : m ≤ 9223372036854775807) (hge : Hid (∀ x ∈ es, EdtG x))
    {a2 : Option Addr} {c2 : Nat} {rec : List Int} (sr : SlV φ a2 c2 rec) (hrl : Hid (rec.length = n)) (hF : Hid (withF fs es rec = 0)) {b : Bool} (hb : Hid (passR fs es rec 0 = b)) {ar af : Option Addr} {nr cr nf cf : Nat} {dn : Int}
    (hrow : Hid (∀ w, Fz φ w → w.cell? ⟨bq, oq, none⟩ = some (.slice a2 n c2))) {W : World} (h : RsS w0 φ bp #[.slice a n cap, .slice ae m ce] bd #[.slice ar nr cr, .slice af nf cf, .int .i64 dn] W) :
    Calls Tryd.prog 12 #[.agg #[.slice a n cap, .slice ae m ce], .slice a2 n c2] W (fun e w' => e = .returned (.tuple #[.bool b, .int .i64 0]) ∧ w'.cell? ⟨bp, 0, none⟩ = some (.slice a n cap) ∧ w'.cell? ⟨bp, 1, none⟩ = some (.slice ae m ce) ∧ w'.cell? ⟨bq, oq, none⟩ = some (.slice a2 n c2) ∧ w'.cell? ⟨bd, 2, none⟩ = some (.int .i64 dn) ∧ Hid (RsS w0 φ bp #[.slice a n cap, .slice ae m ce] bd #[.slice ar nr cr, .slice af nf cf, .int .i64 dn] w')) := by
  refine (Passes_any n a cap fs m ae ce es W φ h.b.fz s hn hm hg se hne hme hge n a2 c2 rec sr hrl hm hF hb).mono ?_
  rintro e w' ⟨rfl, hb5⟩
  have h2 := h.callB hb5
  exact ⟨rfl, h2.b.k.cell 0, h2.b.k.cell 1, hrow.out w' h2.b.fz, h2.d.cell 2, Lib.hid h2⟩
set_option maxRecDepth 100000 in
set_option maxHeartbeats 2000000 in
theorem repaired_core
  (n : Nat) (a : Option Addr) (cap : Nat) (fs : List Fld) (m : Nat) (ae : Option Addr) (ce : Nat) (es : List Edt) (w : World) (φ : Phi) (hφ : Fz φ w) (hpw : PowP φ) (s : SlV φ a cap fs) (hn : Hid (fs.length = n)) (hm : n ≤ 9223372036854775807) (hg : Hid (∀ x ∈ fs, FldG x)) (se : SlV φ ae ce es) (hne : Hid (es.length = m)) (hme : m ≤ 9223372036854775807) (hge : Hid (∀ x ∈ es, EdtG x))
      (nl : Nat) (a2 : Option Addr) (c2 : Nat) (l : List (List Int)) (sl : SlV φ a2 c2 l) (hll : Hid (l.length = nl)) (hml : nl ≤ 9223372036854775807) (seed : ByteArray) (hsd : seed.size ≤ reachBytes)
    :
    Calls Tryd.prog 8 #[.agg #[.slice a n cap, .slice ae m ce], .slice a2 nl c2, .string seed] w fun e w' => e = .returned (.bool true) ∧ Below w.heap.size w w' := by
  obtain ⟨F, hF⟩ : ∃ F, Hid (repsF fs es l seed = F) := ⟨_, Lib.hid rfl⟩
  obtain ⟨out, hout⟩ : ∃ o, Hid (repsL fs es l seed F = o) := ⟨_, Lib.hid rfl⟩
  have hS0 := Lib.hid (BxSt.new hφ #[.slice a n cap, .slice ae m ce] 25)
  have H0 := Lib.hid ((Inv.start hφ).alloc (.cells #[.slice a n cap, .slice ae m ce] 25))
  go_enter Tryd.func8, Tryd.ntmps8
  go_wp2_with fail
  refine (Repairs_any n a cap fs m ae ce es _ φ hS0.out.fz hpw s hn hm hg se hne hme hge nl a2 c2 l sl hll hml seed hsd hF hout).mono ?_
  rintro e w1 ⟨φ1, a4, c4, rfl, hi1, s4⟩
  generalize hbp : w.heap.size = bp at *
  replace hbp := Lib.hid hbp
  have H1 := Lib.hid (H0.out.call hi1)
  have B1 : Hid (BxSt w φ1 bp #[.slice a n cap, .slice ae m ce] 25 w1) := Lib.hid ⟨hi1.fz, (hS0.out.callB hi1.bel).bel, (hS0.out.callB hi1.bel).k⟩
  have S4 := Lib.hid s4
  clear hi1 hS0 H0 s4
  by_cases hf : F = 0
  case neg =>
    have hff : (F != 0) = true := by simp [hf]
    have HO : Hid (out = []) := Lib.hid (by rw [← hout.out, repsL, if_neg hf])
    clear hf
    obtain rfl := HO.out
    go_wp2
    go_ret
    exact ⟨rfl, B1.out.bel⟩
  subst hf
  obtain ⟨z1, z2, z3⟩ := repsF_zero hF.out
  have OK := Lib.hid (planF_zero z1)
  have HO : Hid (out = (List.range nl).map (fun i => repI fs es n m l seed nl i)) := Lib.hid (by rw [← hout.out, repsL, if_pos rfl, hll.out, hn.out, hne.out])
  have HLN : Hid (out.length = nl) := Lib.hid (by rw [HO.out]; simp)
  rw [hn.out, hne.out] at OK z3
  have HP1 := Lib.hid z1
  have HREC : Hid (∀ i, i < nl → recF n (l.getD i []) = 0) := Lib.hid (fun i hi => by
    have := listF_rec z2 (i := i) (by rw [hll.out]; exact hi)
    rw [hn.out] at this
    exact this)
  have HZ3 := Lib.hid z3
  have hle := Lib.hid H1.out.le
  clear z1 z2 z3 H1
  rw [HLN.out]
  have hnn : ((nl : Int) != nl) = false := by simp
  have s1 := s.mono hle.out
  have se1 := se.mono hle.out
  have sl1 := sl.mono hle.out
  go_wp2
  clear hnn
  go_loopw [36] (fun i wr => ∃ k : Nat, k ≤ nl ∧ i = .int .i64 k ∧ Hid (BxSt w φ1 bp #[.slice a n cap, .slice ae m ce] 25 wr)) (fun i _ => nl - (intOf i).toNat)
  case atStart => exact ⟨0, Nat.zero_le _, rfl, B1⟩
  case round =>
    clear B1
    obtain ⟨k, hk, rfl, hS⟩ := hrel
    by_cases hlt : k < nl
    · obtain ⟨bo, oo, rfl, f4⟩ := S4.out.rprD HLN hlt
      obtain ⟨ar, cr, af, cf, s5, s6, f4⟩ := f4 k hlt
      obtain ⟨_, d0, d1, d2⟩ := f4 wr hS.out.fz
      have hget : out.getD k rpr0 = repI fs es n m l seed nl k := by
        rw [HO.out, getD_map0 _ _ _ 0 (by simpa using hlt), getD_range0 hlt]
      rw [hget] at s5 s6 d0 d1 d2
      obtain ⟨bq, oq, rfl, f3⟩ := sl1.lists hll hlt
      have hlen : ∀ i, i < nl → (l.getD i []).length = n := fun i hi => recF_len (HREC.out i hi)
      obtain ⟨r1, r2, r3, r4⟩ := repI_ok OK.out (l := l) (seed := seed) (N := nl) (i := k) (HZ3.out (by rw [hll.out]; omega)) (hlen k hlt)
      have HL0 := Lib.hid (fun i (hi : i < nl) => f3 i hi)
      generalize repI fs es n m l seed nl k = q at *
      obtain ⟨rc, fl, dn⟩ := q
      dsimp only at s5 s6 d0 d1 d2 r1 r2 r3 r4
      have hnr : Hid (rc.length = n) := Lib.hid r2
      obtain ⟨nf, hnf⟩ : ∃ j, Hid (fl.length = j) := ⟨_, Lib.hid rfl⟩
      rw [hnr.out] at d0
      rw [hnf.out] at d1
      have HW1 : Hid (withF fs es rc = 0) := Lib.hid (by
        rw [withF, if_neg (by rw [HP1.out]; simp), hn.out]
        exact recF_valid OK.out hnr.out (pass_parts.1 r1).1)
      have HB1 : Hid (passR fs es rc 0 = true) := Lib.hid (by rw [passR, if_pos rfl, hn.out, hne.out]; exact r1)
      have HR3 := Lib.hid r3
      have HR4 := Lib.hid r4
      have HLEN := Lib.hid hlen
      have hR := Lib.hid (hS.out.alloc (.cells #[.slice ar n cr, .slice af nf cf, .int .i64 dn] 42))
      have hD := Lib.hid (Blk.new wr #[.slice ar n cr, .slice af nf cf, .int .i64 dn] 42)
      have S5 := Lib.hid s5
      have S6 := Lib.hid s6
      have hnrl := s5.len
      rw [hnr.out] at hnrl
      clear f4 f3 r1 r2 r3 r4 hlen hget hS s5 s6
      have p0 : (wr.alloc (.cells #[.slice ar n cr, .slice af nf cf, .int .i64 dn] 42)).cell? ⟨bp, 0, none⟩ = some (.slice a n cap) := hR.out.k.cell 0
      have p1 : (wr.alloc (.cells #[.slice ar n cr, .slice af nf cf, .int .i64 dn] 42)).cell? ⟨bp, 1, none⟩ = some (.slice ae m ce) := hR.out.k.cell 1
      go_wp2_with fail
      clear d0 d1 d2 p0 p1
      generalize wr.alloc (.cells #[.slice ar n cr, .slice af nf cf, .int .i64 dn] 42) = wy at *
      generalize wr.heap.size = bd at *
      refine (Passes_any n a cap fs m ae ce es wy φ1 hR.out.fz s1 hn hm hg se1 hne hme hge n ar cr rc S5.out hnr hnrl HW1 HB1).mono ?_
      rintro e w5 ⟨rfl, hb5⟩
      have hR5 := Lib.hid (hR.out.callB hb5)
      have hD5 := Lib.hid (hD.out.callB hb5)
      clear hb5 hR hD
      obtain ⟨a6, c6, s7, f6⟩ := HL0.out k hlt
      have HF6 := Lib.hid (fun w h => (f6 w h).2)
      rw [HLEN.out k hlt] at HF6
      have S7 := Lib.hid s7
      clear f6 s7
      have HW2 : Hid (withF fs es (l.getD k []) = 0) := Lib.hid (by rw [withF, if_neg (by rw [HP1.out]; simp), hn.out]; exact HREC.out k hlt)
      obtain ⟨pb, hpb⟩ : ∃ b, Hid (passR fs es (l.getD k []) 0 = b) := ⟨_, Lib.hid rfl⟩
      have hxl := Lib.hid (HLEN.out k hlt)
      have hX : Hid (RsS w φ1 bp #[.slice a n cap, .slice ae m ce] bd #[.slice ar n cr, .slice af nf cf, .int .i64 dn] w5) := Lib.hid ⟨hR5.out, hD5.out⟩
      have hXd : Hid (RsS w φ1 bp #[.slice a n cap, .slice ae m ce] bd #[.slice ar n cr, .slice af nf cf, .int .i64 dn] w5.drew) := Lib.hid (hX.out.callB (bdrewN (Below.refl w5.heap.size w5) 1))
      have p0 : w5.cell? ⟨bp, 0, none⟩ = some (.slice a n cap) := hX.out.b.k.cell 0
      have p1 : w5.cell? ⟨bp, 1, none⟩ = some (.slice ae m ce) := hX.out.b.k.cell 1
      have p2 : w5.cell? ⟨bq, oq + k, none⟩ = some (.slice a6 n c6) := HF6.out w5 hX.out.b.fz
      have p3 : w5.cell? ⟨bd, 2, none⟩ = some (.int .i64 dn) := hX.out.d.cell 2
      go_wp2
      go_region_held3 (fun w' => w'.cell? ⟨bp, 0, none⟩ = some (.slice a n cap) ∧ w'.cell? ⟨bp, 1, none⟩ = some (.slice ae m ce) ∧ w'.cell? ⟨bq, oq + k, none⟩ = some (.slice a6 n c6) ∧ w'.cell? ⟨bd, 2, none⟩ = some (.int .i64 dn) ∧ Hid (RsS w φ1 bp #[.slice a n cap, .slice ae m ce] bd #[.slice ar n cr, .slice af nf cf, .int .i64 dn] w')) (first | exact ⟨p0, p1, p2, p3, hX⟩ | exact ⟨p0, p1, p2, p3, hXd⟩ | exact ⟨by assumption, by assumption, by assumption, by assumption, by assumption⟩) (first | ((with_reducible refine (Passes_S s1 hn hm hg se1 hne hme hge S7.out hxl HW2 hpb HF6 (Hid.out (by assumption))).mono ?_); rintro e w' ⟨rfl, y0, y1, y2, y3, y4⟩))
      rename World => w7
      have hX7 : Hid (RsS w φ1 bp #[.slice a n cap, .slice ae m ce] bd #[.slice ar n cr, .slice af nf cf, .int .i64 dn] w7) := by assumption
      have hR7 := Lib.hid hX7.out.b
      have hD7 := Lib.hid hX7.out.d
      clear p0 p1 p2 p3 hX hXd hR5 hD5
      cases pb with
      | false =>
        go_wp2
        go_quiet (fail)
        have hR8 := Lib.hid (hR7.out.callB (bdrewN (Below.refl w7.heap.size w7) nq))
        have hD8 : Hid (Blk (w7.drewN nq) bd #[.slice ar n cr, .slice af nf cf, .int .i64 dn] 42) := hD7
        generalize w7.drewN nq = wv at *
        by_cases hdn : dn < 0
        · have g1 : decide (dn ≥ 0) = false := by simp; omega
          have y2 : wv.cell? ⟨bd, 2, none⟩ = some (.int .i64 dn) := hD8.out.cell 2
          go_wp2
          go_roundw
          case rel => exact ⟨k + 1, by omega, by go_num, hR8⟩
          case measure => simp [intOf]; omega
        · obtain ⟨j, hj, hje, hjp⟩ := HR4.out (by omega)
          subst hje
          obtain ⟨a8, c8, s8, f8⟩ := HL0.out j hj
          have HF8 := Lib.hid (fun w h => (f8 w h).2)
          rw [HLEN.out j hj] at HF8
          have S8 := Lib.hid s8
          clear f8 s8
          have HW3 : Hid (withF fs es (l.getD j []) = 0) := Lib.hid (by rw [withF, if_neg (by rw [HP1.out]; simp), hn.out]; exact HREC.out j hj)
          have HB3 : Hid (passR fs es (l.getD j []) 0 = true) := Lib.hid (by rw [passR, if_pos rfl, hn.out, hne.out]; exact hjp)
          have hyl := Lib.hid (HLEN.out j hj)
          have hj0 : (0 : Int) ≤ j := by omega
          clear hjp
          have hX : Hid (RsS w φ1 bp #[.slice a n cap, .slice ae m ce] bd #[.slice ar n cr, .slice af nf cf, .int .i64 (j : Int)] wv) := Lib.hid ⟨hR8.out, hD8.out⟩
          have hXd : Hid (RsS w φ1 bp #[.slice a n cap, .slice ae m ce] bd #[.slice ar n cr, .slice af nf cf, .int .i64 (j : Int)] wv.drew) := Lib.hid (hX.out.callB (bdrewN (Below.refl wv.heap.size wv) 1))
          have p0 : wv.cell? ⟨bp, 0, none⟩ = some (.slice a n cap) := hX.out.b.k.cell 0
          have p1 : wv.cell? ⟨bp, 1, none⟩ = some (.slice ae m ce) := hX.out.b.k.cell 1
          have p2 : wv.cell? ⟨bq, oq + j, none⟩ = some (.slice a8 n c8) := HF8.out wv hX.out.b.fz
          have p3 : wv.cell? ⟨bd, 2, none⟩ = some (.int .i64 (j : Int)) := hX.out.d.cell 2
          go_wp2
          go_region_held3 (fun w' => w'.cell? ⟨bp, 0, none⟩ = some (.slice a n cap) ∧ w'.cell? ⟨bp, 1, none⟩ = some (.slice ae m ce) ∧ w'.cell? ⟨bq, oq + j, none⟩ = some (.slice a8 n c8) ∧ w'.cell? ⟨bd, 2, none⟩ = some (.int .i64 (j : Int)) ∧ Hid (RsS w φ1 bp #[.slice a n cap, .slice ae m ce] bd #[.slice ar n cr, .slice af nf cf, .int .i64 (j : Int)] w')) (first | exact ⟨p0, p1, p2, p3, hX⟩ | exact ⟨p0, p1, p2, p3, hXd⟩ | exact ⟨by assumption, by assumption, by assumption, by assumption, by assumption⟩) (first | ((with_reducible refine (Passes_S s1 hn hm hg se1 hne hme hge S8.out hyl HW3 HB3 HF8 (Hid.out (by assumption))).mono ?_); rintro e w' ⟨rfl, y0, y1, y2, y3, y4⟩))
          rename World => w9
          have hX9 : Hid (RsS w φ1 bp #[.slice a n cap, .slice ae m ce] bd #[.slice ar n cr, .slice af nf cf, .int .i64 (j : Int)] w9) := by assumption
          have hR9 := Lib.hid hX9.out.b
          clear p0 p1 p2 p3 hX hXd
          go_wp2
          go_roundw
          case rel => exact ⟨k + 1, by omega, by go_num, hR9⟩
          case measure => simp [intOf]; omega
      | true =>
        have hpp : passB fs es (l.getD k []) n m = true := by
          have h := hpb.out
          rw [passR, if_pos rfl, hn.out, hne.out] at h
          exact h
        obtain ⟨e1, e2⟩ := HR3.out hpp
        subst e2
        obtain rfl : nf = 0 := hnf.out.symm
        have S5' : Hid (SlV φ1 ar cr (l.getD k [])) := Lib.hid (by rw [← e1]; exact S5.out)
        clear e1 hpp
        have y0 : w7.cell? ⟨bd, 0, none⟩ = some (.slice ar n cr) := hD7.out.cell 0
        have y1 : w7.cell? ⟨bd, 1, none⟩ = some (.slice af 0 cf) := hD7.out.cell 1
        have d6 := HF6.out w7 hR7.out.fz
        go_wp2
        refine wp_region_still_tail 8 (by kernel_rfl) (by kernel_rfl) ?_
        simp only [List.take_succ_cons, List.take_zero, List.drop_succ_cons, List.drop_zero]
        change wpStill _ _ (World.drew w7) (fun a' => wpList _ _ _ _ a' (World.drew w7)) _ _
        have hR8 : Hid (BxSt w φ1 bp #[.slice a n cap, .slice ae m ce] 25 w7.drew) := Lib.hid (hR7.out.callB (bdrewN (Below.refl w7.heap.size w7) 1))
        have hD8 : Hid (Blk w7.drew bd _ 42) := hD7
        clear y0 y1 d6
        generalize w7.drew = wv at *
        have y0 : wv.cell? ⟨bd, 0, none⟩ = some (.slice ar n cr) := hD8.out.cell 0
        have y1 : wv.cell? ⟨bd, 1, none⟩ = some (.slice af 0 cf) := hD8.out.cell 1
        have d6 := HF6.out wv hR8.out.fz
        repeat still_step
        refine wpStill_nil ?_
        go_wp2_with fail
        refine (Equal_t n ar cr (l.getD k []) a6 c6 wv φ1 φ1 hR8.out.fz hR8.out.fz S5'.out hxl hm S7.out).mono ?_
        rintro e wu ⟨rfl, hbu⟩
        have hRu := Lib.hid (hR8.out.callB hbu)
        have hDu := Lib.hid (hD8.out.callB hbu)
        clear hbu y0 y1 d6 hR7 hD7 hR8 hD8
        have y1 : wu.cell? ⟨bd, 1, none⟩ = some (.slice af 0 cf) := hDu.out.cell 1
        by_cases hdn : dn < 0
        · have g1 : decide (dn ≥ 0) = false := by simp; omega
          have y2 : wu.cell? ⟨bd, 2, none⟩ = some (.int .i64 dn) := hDu.out.cell 2
          go_wp2
          go_roundw
          case rel => exact ⟨k + 1, by omega, by go_num, hRu⟩
          case measure => simp [intOf]; omega
        · obtain ⟨j, hj, hje, hjp⟩ := HR4.out (by omega)
          subst hje
          obtain ⟨a8, c8, s8, f8⟩ := HL0.out j hj
          have HF8 := Lib.hid (fun w h => (f8 w h).2)
          rw [HLEN.out j hj] at HF8
          have S8 := Lib.hid s8
          clear f8 s8
          have HW3 : Hid (withF fs es (l.getD j []) = 0) := Lib.hid (by rw [withF, if_neg (by rw [HP1.out]; simp), hn.out]; exact HREC.out j hj)
          have HB3 : Hid (passR fs es (l.getD j []) 0 = true) := Lib.hid (by rw [passR, if_pos rfl, hn.out, hne.out]; exact hjp)
          have hyl := Lib.hid (HLEN.out j hj)
          have hj0 : (0 : Int) ≤ j := by omega
          clear hjp
          have hX : Hid (RsS w φ1 bp #[.slice a n cap, .slice ae m ce] bd #[.slice ar n cr, .slice af 0 cf, .int .i64 (j : Int)] wu) := Lib.hid ⟨hRu.out, hDu.out⟩
          have hXd : Hid (RsS w φ1 bp #[.slice a n cap, .slice ae m ce] bd #[.slice ar n cr, .slice af 0 cf, .int .i64 (j : Int)] wu.drew) := Lib.hid (hX.out.callB (bdrewN (Below.refl wu.heap.size wu) 1))
          have p0 : wu.cell? ⟨bp, 0, none⟩ = some (.slice a n cap) := hX.out.b.k.cell 0
          have p1 : wu.cell? ⟨bp, 1, none⟩ = some (.slice ae m ce) := hX.out.b.k.cell 1
          have p2 : wu.cell? ⟨bq, oq + j, none⟩ = some (.slice a8 n c8) := HF8.out wu hX.out.b.fz
          have p3 : wu.cell? ⟨bd, 2, none⟩ = some (.int .i64 (j : Int)) := hX.out.d.cell 2
          go_wp2
          go_region_held3 (fun w' => w'.cell? ⟨bp, 0, none⟩ = some (.slice a n cap) ∧ w'.cell? ⟨bp, 1, none⟩ = some (.slice ae m ce) ∧ w'.cell? ⟨bq, oq + j, none⟩ = some (.slice a8 n c8) ∧ w'.cell? ⟨bd, 2, none⟩ = some (.int .i64 (j : Int)) ∧ Hid (RsS w φ1 bp #[.slice a n cap, .slice ae m ce] bd #[.slice ar n cr, .slice af 0 cf, .int .i64 (j : Int)] w')) (first | exact ⟨p0, p1, p2, p3, hX⟩ | exact ⟨p0, p1, p2, p3, hXd⟩ | exact ⟨by assumption, by assumption, by assumption, by assumption, by assumption⟩) (first | ((with_reducible refine (Passes_S s1 hn hm hg se1 hne hme hge S8.out hyl HW3 HB3 HF8 (Hid.out (by assumption))).mono ?_); rintro e w' ⟨rfl, y0, y1, y2, y3, y4⟩))
          rename World => w9
          have hX9 : Hid (RsS w φ1 bp #[.slice a n cap, .slice ae m ce] bd #[.slice ar n cr, .slice af 0 cf, .int .i64 (j : Int)] w9) := by assumption
          have hR9 := Lib.hid hX9.out.b
          clear p0 p1 p2 p3 hX hXd
          go_wp2
          go_roundw
          case rel => exact ⟨k + 1, by omega, by go_num, hR9⟩
          case measure => simp [intOf]; omega
    · obtain rfl : k = nl := by omega
      go_wp2
      go_ret
      exact ⟨rfl, hS.out.bel⟩
end Go.Proofs.YtambgcijceecpaaDoor
