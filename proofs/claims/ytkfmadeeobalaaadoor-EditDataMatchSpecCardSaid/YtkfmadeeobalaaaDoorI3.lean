/- The walk of impute. Conditions: none beyond what the claim form gives. -/
import Derived.Test.YtkfmadeeobalaaaDoorIA
import Derived.Test.YtkfmadeeobalaaaDoorVV
namespace Go.Proofs.YtkfmadeeobalaaaDoor
open Go.RowKit
set_option linter.unusedVariables false
/-- A repair in the making: the box of the result, the box of the repair. -/
structure ImSt (w0 : World) (φ0 φ : Phi) (b1 b2 : Nat) (af : Option Addr) (nf cf n : Nat) (r : List Int) (dn : Int) (wr : World) : Prop where
  inv : Inv w0.heap.size w0 φ0 φ wr
  ex : ∃ ar cr, Blk wr b2 #[.slice ar n cr, .slice af nf cf, .int .i64 dn] 34 ∧ SlV φ ar cr r
  k1 : Blk wr b1 #[.slice none 0 0, .slice none 0 0, .int .i64 0] 34
  f1 : φ b1 = none
  f2 : φ b2 = none
  l1 : w0.heap.size ≤ b1
  l2 : b1 < b2
section
variable {w0 wr w' : World} {φ0 φ φ' : Phi} {b1 b2 : Nat} {af : Option Addr} {nf cf n : Nat} {r r' : List Int} {dn dn' : Int}
theorem ImSt.call (h : ImSt w0 φ0 φ b1 b2 af nf cf n r dn wr) (hi : Inv wr.heap.size wr φ φ' w') : ImSt w0 φ0 φ' b1 b2 af nf cf n r dn w' := by
  obtain ⟨ar, cr, k2, s2⟩ := h.ex
  exact ⟨h.inv.call hi, ⟨ar, cr, k2.callB hi.bel, s2.mono hi.le⟩, h.k1.callB hi.bel, (hi.new _ h.k1.lt).trans h.f1, (hi.new _ k2.lt).trans h.f2, h.l1, h.l2⟩
theorem ImSt.callB (h : ImSt w0 φ0 φ b1 b2 af nf cf n r dn wr) (hb : Below wr.heap.size wr w') : ImSt w0 φ0 φ b1 b2 af nf cf n r dn w' := by
  obtain ⟨ar, cr, k2, s2⟩ := h.ex
  exact ⟨h.inv.callB hb, ⟨ar, cr, k2.callB hb, s2⟩, h.k1.callB hb, h.f1, h.f2, h.l1, h.l2⟩
theorem ImSt.put (h : ImSt w0 φ0 φ b1 b2 af nf cf n r dn wr) {ar : Option Addr} {cr : Nat} (s : SlV φ ar cr r') : ImSt w0 φ0 φ b1 b2 af nf cf n r' dn (wr.setCell ⟨b2, 0, none⟩ (.slice ar n cr)) := by
  obtain ⟨ar0, cr0, k2, s2⟩ := h.ex
  have l1 := h.l1
  have l2 := h.l2
  exact ⟨h.inv.setCell (by omega) h.f2 _, ⟨ar, cr, k2.set 0 _, s⟩, h.k1.other (by show b2 ≠ b1; omega) _, h.f1, h.f2, h.l1, h.l2⟩
theorem ImSt.put2 (h : ImSt w0 φ0 φ b1 b2 af nf cf n r dn wr) : ImSt w0 φ0 φ b1 b2 af nf cf n r dn' (wr.setCell ⟨b2, 2, none⟩ (.int .i64 dn')) := by
  obtain ⟨ar0, cr0, k2, s2⟩ := h.ex
  have l1 := h.l1
  have l2 := h.l2
  exact ⟨h.inv.setCell (by omega) h.f2 _, ⟨ar0, cr0, k2.set 2 _, s2⟩, h.k1.other (by show b2 ≠ b1; omega) _, h.f1, h.f2, h.l1, h.l2⟩
end
def RepPost (n : Nat) (af : Option Addr) (nf cf : Nat) (q : List Int × Int) (φ : Phi) (w : World) (e : Ending) (w' : World) : Prop :=
  ∃ φ' ar cr, e = .returned (.agg #[.slice ar n cr, .slice af nf cf, .int .i64 q.2]) ∧ Inv w.heap.size w φ φ' w' ∧ SlV φ' ar cr q.1
theorem ImSt.start {w w1 : World} {φ φ1 : Phi} {af : Option Addr} {nf cf n : Nat} {r : List Int} {a5 : Option Addr} {c5 : Nat} (hφ : Fz φ w)
    (hi : Inv (w.alloc (.cells #[.slice none 0 0, .slice none 0 0, .int .i64 0] 34)).heap.size (w.alloc (.cells #[.slice none 0 0, .slice none 0 0, .int .i64 0] 34)) φ φ1 w1) (s : SlV φ1 a5 c5 r) :
    ImSt w φ φ1 w.heap.size w1.heap.size af nf cf n r (-1) (w1.alloc (.cells #[.slice a5 n c5, .slice af nf cf, .int .i64 (-1)] 34)) := by
  have hs := alloc_size w (.cells #[.slice none 0 0, .slice none 0 0, .int .i64 0] 34)
  have hl := hi.bel.size
  refine ⟨(((Inv.start hφ).alloc _).call hi).alloc _, ⟨a5, c5, Blk.new w1 _ _, s⟩, ((Blk.new w _ _).callB hi.bel).alloc _, (hi.new _ (by omega)).trans (hφ.new_none (Nat.le_refl _)), hi.fz.new_none (Nat.le_refl _), Nat.le_refl _, by omega⟩
set_option maxRecDepth 100000 in
set_option maxHeartbeats 2000000 in
theorem impute_any
  {φ : Phi} {br : Nat} {fs : List Fld} {es : List Edt} {n m : Nat} {a : Option Addr} {cap : Nat} {ae : Option Addr} {ce : Nat} {ab : Option Addr} {cb : Nat} (R : RulV φ br fs es n m a cap ae ce ab cb)
    (w : World) (hφ : Fz φ w) (a1 : Option Addr) (c1 : Nat) (rec : List Int) (sr : SlV φ a1 c1 rec) (hrl : Hid (rec.length = n)) (nf : Nat) (af : Option Addr) (cf : Nat) (fields : List Int) (sf : SlV φ af cf fields) (hfl : Hid (fields.length = nf)) (hfr : Hid (∀ x ∈ fields, 0 ≤ x ∧ x < (n : Int)))
    (nd : Nat) (ad : Option Addr) (cd : Nat) (ds : List (List Int)) (sd : SlV φ ad cd ds) (hdl : Hid (ds.length = nd)) (hnd : nd ≤ 3000) (hdr : Hid (∀ i, i < nd → (ds.getD i []).length = n)) (seed : ByteArray) (hsd : seed.size ≤ 9223372036854775806)
    (hfs : Hid (fields.length ≠ 0 → (firstS fs es n m rec fields).1.length = n)) {q : List Int × Int} (hq : Hid (impR fs es n m rec fields ds (shufF seed nd) = q)) :
    Calls Tryd.prog 27 #[.pointer (some ⟨br, 0, none⟩), .slice a1 n c1, .slice af nf cf, .slice ad nd cd, .string seed] w (RepPost n af nf cf q φ w) := by
  have hn12 := R.ok.pos
  have OKH := Lib.hid R.ok
  have hcf := sf.capn
  have hmf := sf.capm
  rw [hfl.out] at hcf
  unfold maxLen at hmf
  go_enter Tryd.func27, Tryd.ntmps27
  go_wp2_with fail
  refine (Clone_n (hφ.alloc _) sr hrl (by omega)).mono ?_
  rintro e w1 ⟨a5, c5, rfl, hi5, ho5⟩
  obtain ⟨φ1, l1, i1, s1, _⟩ := ho5.release hi5
  have HS := Lib.hid (ImSt.start (af := af) (nf := nf) (cf := cf) (n := n) hφ i1 s1)
  have HL1 := Lib.hid l1
  clear hi5 ho5 i1 s1 l1
  generalize hb1 : w.heap.size = b1 at *
  replace hb1 := Lib.hid hb1
  by_cases h0 : nf = 0
  · subst h0
    have hf : fields = [] := List.eq_nil_of_length_eq_zero hfl.out
    subst hf
    have HQ : Hid (q = (rec, -1)) := Lib.hid (by rw [← hq.out]; rfl)
    obtain ⟨arZ, crZ, kZ, sZ⟩ := HS.out.ex
    have z0 : _ = some (Value.slice none 0 0) := HS.out.k1.cell 0
    have z1 : _ = some (Value.slice none 0 0) := HS.out.k1.cell 1
    have z2 : _ = some (Value.int .i64 0) := HS.out.k1.cell 2
    have x0 := HS.out.k1.frz 0
    have x1 := HS.out.k1.frz 1
    have x2 := HS.out.k1.frz 2
    have y0 : _ = some (Value.slice arZ n crZ) := kZ.cell 0
    have y1 : _ = some (Value.slice af 0 cf) := kZ.cell 1
    have y2 : _ = some (Value.int .i64 (-1)) := kZ.cell 2
    have hIZ := Lib.hid ((((HS.out.inv.setCell HS.out.l1 HS.out.f1 (off := 0) (.slice arZ n crZ)).setCell HS.out.l1 HS.out.f1 (off := 1) (.slice af 0 cf)).setCell HS.out.l1 HS.out.f1 (off := 2) (.int .i64 (-1))))
    have hBZ := Lib.hid (((HS.out.k1.set 0 (.slice arZ n crZ)).set 1 (.slice af 0 cf)).set 2 (.int .i64 (-1)))
    have hSZ := Lib.hid sZ
    clear kZ sZ
    go_wp2
    have e0 : _ = some (Value.slice arZ n crZ) := hBZ.out.cell 0
    have e1 : _ = some (Value.slice af 0 cf) := hBZ.out.cell 1
    have e2 : _ = some (Value.int .i64 (-1)) := hBZ.out.cell 2
    (try simp only [Exit.inBlock, Exit.then])
    refine bodyPost_ret (v := .agg #[.slice arZ n crZ, .slice af 0 cf, .int .i64 (-1)]) (by simp [results, Tryd.results27, go_sem, e0, e1, e2]) rfl ?_
    obtain rfl := HQ.out
    exact ⟨φ1, arZ, crZ, rfl, hIZ.out, hSZ.out⟩
  have hnf : ((nf : Int) == 0) = false := by simp [h0]
  have hfne : fields.length ≠ 0 := by rw [hfl.out]; exact h0
  have hfs := Lib.hid (hfs.out hfne)
  have hq2 := hq.out
  rw [impR, if_neg hfne] at hq2
  have HQ := Lib.hid hq2
  obtain ⟨ord, hord⟩ : ∃ o, Hid (shufF seed nd = o) := ⟨_, Lib.hid rfl⟩
  have hol : Hid (ord.length = nd) := Lib.hid (by rw [← hord.out, shufF_len])
  have hor : Hid (∀ x ∈ ord, 0 ≤ x ∧ x < (nd : Int)) := Lib.hid (by rw [← hord.out]; exact shufF_rng _ _)
  rw [hord.out] at HQ
  have C := Lib.hid (fun (w : World) (φ : Phi) (h : Fz φ w) => Shuffle_any seed nd w φ h hsd (by omega) hord)
  have hfz := HS.out.inv.fz
  clear hq hq2
  go_wp2_with (go_at_call 73; refine (C.out _ φ1 hfz).mono ?_; rintro e w2 ⟨a6, c6, rfl, hi6, ho6⟩; rw [hol.out])
  obtain ⟨φ2, l2, i2, s2, _⟩ := ho6.release hi6
  have HS2 : Hid (φ.le φ2 ∧ ImSt w φ φ2 b1 w1.heap.size af nf cf n (impF fs es n m rec fields ds (ord.take 0) (rec, -1, 0)).1 (impF fs es n m rec fields ds (ord.take 0) (rec, -1, 0)).2.1 w2) := Lib.hid ⟨HL1.out.trans l2, HS.out.call i2⟩
  have S2 := Lib.hid s2
  clear hfz hi6 ho6 l2 i2 s2 HS
  generalize w1.heap.size = b2 at *
  go_loopw [14, 37] (fun nv i wr => ∃ (j : Nat) (φ' : Phi), j ≤ nd ∧ nv = .int .i64 (impF fs es n m rec fields ds (ord.take j) (rec, -1, 0)).2.2 ∧ i = .int .i64 j ∧ Hid (φ2.le φ' ∧ ImSt w φ φ' b1 b2 af nf cf n (impF fs es n m rec fields ds (ord.take j) (rec, -1, 0)).1 (impF fs es n m rec fields ds (ord.take j) (rec, -1, 0)).2.1 wr)) (fun _ i _ => nd - (intOf i).toNat)
  case atStart => exact ⟨0, φ2, Nat.zero_le _, rfl, rfl, Lib.hid ⟨φ2.le_refl, HS2.out.2⟩⟩
  case round =>
    have HLE2 := Lib.hid HS2.out.1
    clear HS2
    obtain ⟨j, φ3, hj, rfl, rfl, hS⟩ := hrel
    by_cases hlt : j < nd
    · obtain ⟨b3, o3, rfl, f3⟩ := S2.out.intsD hol hlt
      have d3 := (f3 j hlt wr (hS.out.2.inv.fz.sub hS.out.1)).2
      have hri := hor.out (ord.getD j 0) (by rw [getD_elem0 _ _ _ (by rw [hol.out]; exact hlt)]; exact List.getElem_mem _)
      have HT := Lib.hid (take_snocD 0 ord j nd hol.out hlt)
      obtain ⟨k, hk⟩ : ∃ k : Nat, ord.getD j 0 = k := ⟨(ord.getD j 0).toNat, by omega⟩
      rw [hk] at d3 hri HT
      have hkn : k < nd := by omega
      have HN : Hid (impF fs es n m rec fields ds (ord.take (j + 1)) (rec, -1, 0) = impV fs es n m rec fields ds (impF fs es n m rec fields ds (ord.take j) (rec, -1, 0)) k) := Lib.hid (by rw [HT.out, impF_snoc])
      have hW := hS.out.2.inv.le
      have sd3 := sd.mono hW
      have sf3 := sf.mono hW
      have sr3 := sr.mono hW
      have R3 := R.mono hW
      obtain ⟨b4, o4, rfl, f4⟩ := sd3.lists hdl hkn
      obtain ⟨a4, c4, s4, f4⟩ := f4 k hkn
      have hdn := Lib.hid (hdr.out k hkn)
      have F4 : Hid (∀ w, Fz φ3 w → w.cell? ⟨b4, o4 + k, none⟩ = some (.slice a4 n c4)) := Lib.hid (fun w h => by
        have := (f4 w h).2
        rw [hdn.out] at this
        exact this)
      have d4 := F4.out wr hS.out.2.inv.fz
      have hkk : ((k : Int)).toNat = k := by omega
      rw [impV, hkk] at HN
      obtain ⟨d, hd⟩ : ∃ d, Hid (ds.getD k [] = d) := ⟨_, Lib.hid rfl⟩
      rw [hd.out] at s4 HN hdn
      obtain ⟨x, hx⟩ : ∃ x, Hid (takenF rec d fields = x) := ⟨_, Lib.hid rfl⟩
      obtain ⟨far, hfar⟩ : ∃ y, Hid (farK fs rec d fields n = y) := ⟨_, Lib.hid rfl⟩
      rw [hx.out, hfar.out] at HN
      have hfa : Hid (wSum fs (apL x d n) = far) := Lib.hid (by rw [← hfar.out, farK, hx.out])
      have hxl : Hid (x.length = n) := Lib.hid (by rw [← hx.out, takenF_len]; exact hrl.out)
      obtain ⟨pa, hpa⟩ : ∃ b, Hid (passB fs es x n m = b) := ⟨_, Lib.hid rfl⟩
      obtain ⟨pd, hpd⟩ : ∃ b, Hid (passB fs es d n m = b) := ⟨_, Lib.hid rfl⟩
      rw [hpa.out, hpd.out] at HN
      have C1 := Lib.hid (taken_any hS.out.2.inv.fz (n := n) (by omega) sr3 hrl s4 hdn sf3 hfl hfr)
      rw [hx.out] at C1
      generalize hSj : impF fs es n m rec fields ds (ord.take j) (rec, -1, 0) = sj at *
      obtain ⟨rj, dj, nj⟩ := sj
      dsimp only at hS HN
      have hk2 := Lib.hid hk
      clear f3 f4 hri hW hkk HT hSj hk
      obtain ⟨L, hL⟩ : ∃ k, Hid ((apL x d n).length = k) := ⟨_, Lib.hid rfl⟩
      by_cases hc1 : dj < 0
      · have g1 : decide (dj < 0) = true := by simp [hc1]
        have HC : Hid (dj < 0 ∨ far < nj) := Lib.hid (.inl hc1)
        cases pa with
        | false =>
          have HN2 : Hid (impF fs es n m rec fields ds (ord.take (j + 1)) (rec, -1, 0) = (rj, dj, nj)) := Lib.hid (by rw [HN.out, if_neg (fun h => by cases h.2.1)])
          go_wp2_with (first
            | (go_at_call 74; refine C1.out.mono ?_; rintro e w5 ⟨a5, c5, rfl, hi5, ho5⟩; obtain ⟨φ4, l4, i4, s5, _⟩ := ho5.release hi5; have H5 := Lib.hid (And.intro (hS.out.1.trans l4) (hS.out.2.call i4)); have R4 := R3.mono l4; have S4 := Lib.hid (s4.mono l4); have S5 := Lib.hid s5; have L4 := Lib.hid l4; have d5 : w5.cell? ⟨b4, o4 + k, none⟩ = some (.slice a4 n c4) := F4.out w5 (i4.fz.sub l4); clear hi5 ho5 l4 i4 s5)
            | (go_at_call 36; refine ((apart_any R4 w5 H5.out.2.inv.fz a5 c5 x S5.out hxl a4 c4 d S4.out hdn).mono (fun e w h => ApPost.toN hL.out hfa.out h)).mono ?_; rintro e w6 ⟨a7, c7, rfl, hi7, _⟩; have H6 := Lib.hid (And.intro H5.out.1 (H5.out.2.callB hi7.bel)); obtain ⟨ar6, cr6, k6, _⟩ := H6.out.2.ex; have y2 : w6.cell? ⟨b2, 2, none⟩ = some (.int .i64 dj) := k6.cell 2; have d6 : w6.cell? ⟨b4, o4 + k, none⟩ = some (.slice a4 n c4) := F4.out w6 (H6.out.2.inv.fz.sub L4.out); clear hi7 k6)
            | (go_at_call 25; refine (passes_any R4 w7 H7.out.2.inv.fz a4 c4 d S4.out hdn hpd.out).mono ?_; rintro e w8 ⟨rfl, hb8⟩; have H8 := Lib.hid (And.intro H7.out.1 (H7.out.2.callB hb8)); obtain ⟨ar8, cr8, k8, _⟩ := H8.out.2.ex; have v0 : w8.cell? ⟨b2, 0, none⟩ = some (.slice ar8 n cr8) := k8.cell 0; have v2 : w8.cell? ⟨b2, 2, none⟩ = some (.int .i64 dj) := k8.cell 2; have u0 := k8.frz 0; have u2 := k8.frz 2; clear hb8 k8)
            | (go_at_call 25; refine (passes_any R4 w6 H6.out.2.inv.fz a5 c5 x S5.out hxl hpa.out).mono ?_; rintro e w7 ⟨rfl, hb7⟩; have H7 := Lib.hid (And.intro H6.out.1 (H6.out.2.callB hb7)); have d7 : w7.cell? ⟨b4, o4 + k, none⟩ = some (.slice a4 n c4) := F4.out w7 (H7.out.2.inv.fz.sub L4.out); clear hb7))
          go_roundw
          case rel => exact ⟨j + 1, φ4, by omega, by rw [HN2.out], by go_num, by rw [HN2.out]; exact H7⟩
          case measure => (simp [intOf] <;> omega)
        | true =>
          cases pd with
          | false =>
            have HN2 : Hid (impF fs es n m rec fields ds (ord.take (j + 1)) (rec, -1, 0) = (rj, dj, nj)) := Lib.hid (by rw [HN.out, if_neg (fun h => by cases h.2.2)])
            go_wp2_with (first
              | (go_at_call 74; refine C1.out.mono ?_; rintro e w5 ⟨a5, c5, rfl, hi5, ho5⟩; obtain ⟨φ4, l4, i4, s5, _⟩ := ho5.release hi5; have H5 := Lib.hid (And.intro (hS.out.1.trans l4) (hS.out.2.call i4)); have R4 := R3.mono l4; have S4 := Lib.hid (s4.mono l4); have S5 := Lib.hid s5; have L4 := Lib.hid l4; have d5 : w5.cell? ⟨b4, o4 + k, none⟩ = some (.slice a4 n c4) := F4.out w5 (i4.fz.sub l4); clear hi5 ho5 l4 i4 s5)
              | (go_at_call 36; refine ((apart_any R4 w5 H5.out.2.inv.fz a5 c5 x S5.out hxl a4 c4 d S4.out hdn).mono (fun e w h => ApPost.toN hL.out hfa.out h)).mono ?_; rintro e w6 ⟨a7, c7, rfl, hi7, _⟩; have H6 := Lib.hid (And.intro H5.out.1 (H5.out.2.callB hi7.bel)); obtain ⟨ar6, cr6, k6, _⟩ := H6.out.2.ex; have y2 : w6.cell? ⟨b2, 2, none⟩ = some (.int .i64 dj) := k6.cell 2; have d6 : w6.cell? ⟨b4, o4 + k, none⟩ = some (.slice a4 n c4) := F4.out w6 (H6.out.2.inv.fz.sub L4.out); clear hi7 k6)
              | (go_at_call 25; refine (passes_any R4 w7 H7.out.2.inv.fz a4 c4 d S4.out hdn hpd.out).mono ?_; rintro e w8 ⟨rfl, hb8⟩; have H8 := Lib.hid (And.intro H7.out.1 (H7.out.2.callB hb8)); obtain ⟨ar8, cr8, k8, _⟩ := H8.out.2.ex; have v0 : w8.cell? ⟨b2, 0, none⟩ = some (.slice ar8 n cr8) := k8.cell 0; have v2 : w8.cell? ⟨b2, 2, none⟩ = some (.int .i64 dj) := k8.cell 2; have u0 := k8.frz 0; have u2 := k8.frz 2; clear hb8 k8)
              | (go_at_call 25; refine (passes_any R4 w6 H6.out.2.inv.fz a5 c5 x S5.out hxl hpa.out).mono ?_; rintro e w7 ⟨rfl, hb7⟩; have H7 := Lib.hid (And.intro H6.out.1 (H6.out.2.callB hb7)); have d7 : w7.cell? ⟨b4, o4 + k, none⟩ = some (.slice a4 n c4) := F4.out w7 (H7.out.2.inv.fz.sub L4.out); clear hb7))
            go_roundw
            case rel => exact ⟨j + 1, φ4, by omega, by rw [HN2.out], by go_num, by rw [HN2.out]; exact H8⟩
            case measure => (simp [intOf] <;> omega)
          | true =>
            have HN2 : Hid (impF fs es n m rec fields ds (ord.take (j + 1)) (rec, -1, 0) = (x, (k : Int), far)) := Lib.hid (by rw [HN.out, if_pos ⟨HC.out, rfl, rfl⟩])
            go_wp2_with (first
              | (go_at_call 74; refine C1.out.mono ?_; rintro e w5 ⟨a5, c5, rfl, hi5, ho5⟩; obtain ⟨φ4, l4, i4, s5, _⟩ := ho5.release hi5; have H5 := Lib.hid (And.intro (hS.out.1.trans l4) (hS.out.2.call i4)); have R4 := R3.mono l4; have S4 := Lib.hid (s4.mono l4); have S5 := Lib.hid s5; have L4 := Lib.hid l4; have d5 : w5.cell? ⟨b4, o4 + k, none⟩ = some (.slice a4 n c4) := F4.out w5 (i4.fz.sub l4); clear hi5 ho5 l4 i4 s5)
              | (go_at_call 36; refine ((apart_any R4 w5 H5.out.2.inv.fz a5 c5 x S5.out hxl a4 c4 d S4.out hdn).mono (fun e w h => ApPost.toN hL.out hfa.out h)).mono ?_; rintro e w6 ⟨a7, c7, rfl, hi7, _⟩; have H6 := Lib.hid (And.intro H5.out.1 (H5.out.2.callB hi7.bel)); obtain ⟨ar6, cr6, k6, _⟩ := H6.out.2.ex; have y2 : w6.cell? ⟨b2, 2, none⟩ = some (.int .i64 dj) := k6.cell 2; have d6 : w6.cell? ⟨b4, o4 + k, none⟩ = some (.slice a4 n c4) := F4.out w6 (H6.out.2.inv.fz.sub L4.out); clear hi7 k6)
              | (go_at_call 25; refine (passes_any R4 w7 H7.out.2.inv.fz a4 c4 d S4.out hdn hpd.out).mono ?_; rintro e w8 ⟨rfl, hb8⟩; have H8 := Lib.hid (And.intro H7.out.1 (H7.out.2.callB hb8)); obtain ⟨ar8, cr8, k8, _⟩ := H8.out.2.ex; have v0 : w8.cell? ⟨b2, 0, none⟩ = some (.slice ar8 n cr8) := k8.cell 0; have v2 : w8.cell? ⟨b2, 2, none⟩ = some (.int .i64 dj) := k8.cell 2; have u0 := k8.frz 0; have u2 := k8.frz 2; clear hb8 k8)
              | (go_at_call 25; refine (passes_any R4 w6 H6.out.2.inv.fz a5 c5 x S5.out hxl hpa.out).mono ?_; rintro e w7 ⟨rfl, hb7⟩; have H7 := Lib.hid (And.intro H6.out.1 (H6.out.2.callB hb7)); have d7 : w7.cell? ⟨b4, o4 + k, none⟩ = some (.slice a4 n c4) := F4.out w7 (H7.out.2.inv.fz.sub L4.out); clear hb7))
            go_roundw
            case rel => exact ⟨j + 1, φ4, by omega, by rw [HN2.out], by go_num, by rw [HN2.out]; exact Lib.hid ⟨H8.out.1, (H8.out.2.put S5.out).put2⟩⟩
            case measure => (simp [intOf] <;> omega)
      · have g1 : decide (dj < 0) = false := by simp [hc1]
        by_cases c2 : far < nj
        · have g2 : decide (far < nj) = true := by simp [c2]
          have HC : Hid (dj < 0 ∨ far < nj) := Lib.hid (.inr c2)
          cases pa with
          | false =>
            have HN2 : Hid (impF fs es n m rec fields ds (ord.take (j + 1)) (rec, -1, 0) = (rj, dj, nj)) := Lib.hid (by rw [HN.out, if_neg (fun h => by cases h.2.1)])
            go_wp2_with (first
              | (go_at_call 74; refine C1.out.mono ?_; rintro e w5 ⟨a5, c5, rfl, hi5, ho5⟩; obtain ⟨φ4, l4, i4, s5, _⟩ := ho5.release hi5; have H5 := Lib.hid (And.intro (hS.out.1.trans l4) (hS.out.2.call i4)); have R4 := R3.mono l4; have S4 := Lib.hid (s4.mono l4); have S5 := Lib.hid s5; have L4 := Lib.hid l4; have d5 : w5.cell? ⟨b4, o4 + k, none⟩ = some (.slice a4 n c4) := F4.out w5 (i4.fz.sub l4); clear hi5 ho5 l4 i4 s5)
              | (go_at_call 36; refine ((apart_any R4 w5 H5.out.2.inv.fz a5 c5 x S5.out hxl a4 c4 d S4.out hdn).mono (fun e w h => ApPost.toN hL.out hfa.out h)).mono ?_; rintro e w6 ⟨a7, c7, rfl, hi7, _⟩; have H6 := Lib.hid (And.intro H5.out.1 (H5.out.2.callB hi7.bel)); obtain ⟨ar6, cr6, k6, _⟩ := H6.out.2.ex; have y2 : w6.cell? ⟨b2, 2, none⟩ = some (.int .i64 dj) := k6.cell 2; have d6 : w6.cell? ⟨b4, o4 + k, none⟩ = some (.slice a4 n c4) := F4.out w6 (H6.out.2.inv.fz.sub L4.out); clear hi7 k6)
              | (go_at_call 25; refine (passes_any R4 w7 H7.out.2.inv.fz a4 c4 d S4.out hdn hpd.out).mono ?_; rintro e w8 ⟨rfl, hb8⟩; have H8 := Lib.hid (And.intro H7.out.1 (H7.out.2.callB hb8)); obtain ⟨ar8, cr8, k8, _⟩ := H8.out.2.ex; have v0 : w8.cell? ⟨b2, 0, none⟩ = some (.slice ar8 n cr8) := k8.cell 0; have v2 : w8.cell? ⟨b2, 2, none⟩ = some (.int .i64 dj) := k8.cell 2; have u0 := k8.frz 0; have u2 := k8.frz 2; clear hb8 k8)
              | (go_at_call 25; refine (passes_any R4 w6 H6.out.2.inv.fz a5 c5 x S5.out hxl hpa.out).mono ?_; rintro e w7 ⟨rfl, hb7⟩; have H7 := Lib.hid (And.intro H6.out.1 (H6.out.2.callB hb7)); have d7 : w7.cell? ⟨b4, o4 + k, none⟩ = some (.slice a4 n c4) := F4.out w7 (H7.out.2.inv.fz.sub L4.out); clear hb7))
            go_roundw
            case rel => exact ⟨j + 1, φ4, by omega, by rw [HN2.out], by go_num, by rw [HN2.out]; exact H7⟩
            case measure => (simp [intOf] <;> omega)
          | true =>
            cases pd with
            | false =>
              have HN2 : Hid (impF fs es n m rec fields ds (ord.take (j + 1)) (rec, -1, 0) = (rj, dj, nj)) := Lib.hid (by rw [HN.out, if_neg (fun h => by cases h.2.2)])
              go_wp2_with (first
                | (go_at_call 74; refine C1.out.mono ?_; rintro e w5 ⟨a5, c5, rfl, hi5, ho5⟩; obtain ⟨φ4, l4, i4, s5, _⟩ := ho5.release hi5; have H5 := Lib.hid (And.intro (hS.out.1.trans l4) (hS.out.2.call i4)); have R4 := R3.mono l4; have S4 := Lib.hid (s4.mono l4); have S5 := Lib.hid s5; have L4 := Lib.hid l4; have d5 : w5.cell? ⟨b4, o4 + k, none⟩ = some (.slice a4 n c4) := F4.out w5 (i4.fz.sub l4); clear hi5 ho5 l4 i4 s5)
                | (go_at_call 36; refine ((apart_any R4 w5 H5.out.2.inv.fz a5 c5 x S5.out hxl a4 c4 d S4.out hdn).mono (fun e w h => ApPost.toN hL.out hfa.out h)).mono ?_; rintro e w6 ⟨a7, c7, rfl, hi7, _⟩; have H6 := Lib.hid (And.intro H5.out.1 (H5.out.2.callB hi7.bel)); obtain ⟨ar6, cr6, k6, _⟩ := H6.out.2.ex; have y2 : w6.cell? ⟨b2, 2, none⟩ = some (.int .i64 dj) := k6.cell 2; have d6 : w6.cell? ⟨b4, o4 + k, none⟩ = some (.slice a4 n c4) := F4.out w6 (H6.out.2.inv.fz.sub L4.out); clear hi7 k6)
                | (go_at_call 25; refine (passes_any R4 w7 H7.out.2.inv.fz a4 c4 d S4.out hdn hpd.out).mono ?_; rintro e w8 ⟨rfl, hb8⟩; have H8 := Lib.hid (And.intro H7.out.1 (H7.out.2.callB hb8)); obtain ⟨ar8, cr8, k8, _⟩ := H8.out.2.ex; have v0 : w8.cell? ⟨b2, 0, none⟩ = some (.slice ar8 n cr8) := k8.cell 0; have v2 : w8.cell? ⟨b2, 2, none⟩ = some (.int .i64 dj) := k8.cell 2; have u0 := k8.frz 0; have u2 := k8.frz 2; clear hb8 k8)
                | (go_at_call 25; refine (passes_any R4 w6 H6.out.2.inv.fz a5 c5 x S5.out hxl hpa.out).mono ?_; rintro e w7 ⟨rfl, hb7⟩; have H7 := Lib.hid (And.intro H6.out.1 (H6.out.2.callB hb7)); have d7 : w7.cell? ⟨b4, o4 + k, none⟩ = some (.slice a4 n c4) := F4.out w7 (H7.out.2.inv.fz.sub L4.out); clear hb7))
              go_roundw
              case rel => exact ⟨j + 1, φ4, by omega, by rw [HN2.out], by go_num, by rw [HN2.out]; exact H8⟩
              case measure => (simp [intOf] <;> omega)
            | true =>
              have HN2 : Hid (impF fs es n m rec fields ds (ord.take (j + 1)) (rec, -1, 0) = (x, (k : Int), far)) := Lib.hid (by rw [HN.out, if_pos ⟨HC.out, rfl, rfl⟩])
              go_wp2_with (first
                | (go_at_call 74; refine C1.out.mono ?_; rintro e w5 ⟨a5, c5, rfl, hi5, ho5⟩; obtain ⟨φ4, l4, i4, s5, _⟩ := ho5.release hi5; have H5 := Lib.hid (And.intro (hS.out.1.trans l4) (hS.out.2.call i4)); have R4 := R3.mono l4; have S4 := Lib.hid (s4.mono l4); have S5 := Lib.hid s5; have L4 := Lib.hid l4; have d5 : w5.cell? ⟨b4, o4 + k, none⟩ = some (.slice a4 n c4) := F4.out w5 (i4.fz.sub l4); clear hi5 ho5 l4 i4 s5)
                | (go_at_call 36; refine ((apart_any R4 w5 H5.out.2.inv.fz a5 c5 x S5.out hxl a4 c4 d S4.out hdn).mono (fun e w h => ApPost.toN hL.out hfa.out h)).mono ?_; rintro e w6 ⟨a7, c7, rfl, hi7, _⟩; have H6 := Lib.hid (And.intro H5.out.1 (H5.out.2.callB hi7.bel)); obtain ⟨ar6, cr6, k6, _⟩ := H6.out.2.ex; have y2 : w6.cell? ⟨b2, 2, none⟩ = some (.int .i64 dj) := k6.cell 2; have d6 : w6.cell? ⟨b4, o4 + k, none⟩ = some (.slice a4 n c4) := F4.out w6 (H6.out.2.inv.fz.sub L4.out); clear hi7 k6)
                | (go_at_call 25; refine (passes_any R4 w7 H7.out.2.inv.fz a4 c4 d S4.out hdn hpd.out).mono ?_; rintro e w8 ⟨rfl, hb8⟩; have H8 := Lib.hid (And.intro H7.out.1 (H7.out.2.callB hb8)); obtain ⟨ar8, cr8, k8, _⟩ := H8.out.2.ex; have v0 : w8.cell? ⟨b2, 0, none⟩ = some (.slice ar8 n cr8) := k8.cell 0; have v2 : w8.cell? ⟨b2, 2, none⟩ = some (.int .i64 dj) := k8.cell 2; have u0 := k8.frz 0; have u2 := k8.frz 2; clear hb8 k8)
                | (go_at_call 25; refine (passes_any R4 w6 H6.out.2.inv.fz a5 c5 x S5.out hxl hpa.out).mono ?_; rintro e w7 ⟨rfl, hb7⟩; have H7 := Lib.hid (And.intro H6.out.1 (H6.out.2.callB hb7)); have d7 : w7.cell? ⟨b4, o4 + k, none⟩ = some (.slice a4 n c4) := F4.out w7 (H7.out.2.inv.fz.sub L4.out); clear hb7))
              go_roundw
              case rel => exact ⟨j + 1, φ4, by omega, by rw [HN2.out], by go_num, by rw [HN2.out]; exact Lib.hid ⟨H8.out.1, (H8.out.2.put S5.out).put2⟩⟩
              case measure => (simp [intOf] <;> omega)
        · have g2 : decide (far < nj) = false := by simp [c2]
          have HN2 : Hid (impF fs es n m rec fields ds (ord.take (j + 1)) (rec, -1, 0) = (rj, dj, nj)) := Lib.hid (by rw [HN.out, if_neg (fun h => by rcases h.1 with h | h; exact hc1 h; exact c2 h)])
          go_wp2_with (first
            | (go_at_call 74; refine C1.out.mono ?_; rintro e w5 ⟨a5, c5, rfl, hi5, ho5⟩; obtain ⟨φ4, l4, i4, s5, _⟩ := ho5.release hi5; have H5 := Lib.hid (And.intro (hS.out.1.trans l4) (hS.out.2.call i4)); have R4 := R3.mono l4; have S4 := Lib.hid (s4.mono l4); have S5 := Lib.hid s5; have L4 := Lib.hid l4; have d5 : w5.cell? ⟨b4, o4 + k, none⟩ = some (.slice a4 n c4) := F4.out w5 (i4.fz.sub l4); clear hi5 ho5 l4 i4 s5)
            | (go_at_call 36; refine ((apart_any R4 w5 H5.out.2.inv.fz a5 c5 x S5.out hxl a4 c4 d S4.out hdn).mono (fun e w h => ApPost.toN hL.out hfa.out h)).mono ?_; rintro e w6 ⟨a7, c7, rfl, hi7, _⟩; have H6 := Lib.hid (And.intro H5.out.1 (H5.out.2.callB hi7.bel)); obtain ⟨ar6, cr6, k6, _⟩ := H6.out.2.ex; have y2 : w6.cell? ⟨b2, 2, none⟩ = some (.int .i64 dj) := k6.cell 2; have d6 : w6.cell? ⟨b4, o4 + k, none⟩ = some (.slice a4 n c4) := F4.out w6 (H6.out.2.inv.fz.sub L4.out); clear hi7 k6)
            | (go_at_call 25; refine (passes_any R4 w7 H7.out.2.inv.fz a4 c4 d S4.out hdn hpd.out).mono ?_; rintro e w8 ⟨rfl, hb8⟩; have H8 := Lib.hid (And.intro H7.out.1 (H7.out.2.callB hb8)); obtain ⟨ar8, cr8, k8, _⟩ := H8.out.2.ex; have v0 : w8.cell? ⟨b2, 0, none⟩ = some (.slice ar8 n cr8) := k8.cell 0; have v2 : w8.cell? ⟨b2, 2, none⟩ = some (.int .i64 dj) := k8.cell 2; have u0 := k8.frz 0; have u2 := k8.frz 2; clear hb8 k8)
            | (go_at_call 25; refine (passes_any R4 w6 H6.out.2.inv.fz a5 c5 x S5.out hxl hpa.out).mono ?_; rintro e w7 ⟨rfl, hb7⟩; have H7 := Lib.hid (And.intro H6.out.1 (H6.out.2.callB hb7)); have d7 : w7.cell? ⟨b4, o4 + k, none⟩ = some (.slice a4 n c4) := F4.out w7 (H7.out.2.inv.fz.sub L4.out); clear hb7))
          go_roundw
          case rel => exact ⟨j + 1, φ4, by omega, by rw [HN2.out], by go_num, by rw [HN2.out]; exact H6⟩
          case measure => (simp [intOf] <;> omega)
    · obtain rfl : j = nd := by omega
      have HT : Hid (ord.take j = ord) := Lib.hid (by rw [← hol.out, List.take_length])
      rw [HT.out] at hS ⊢
      generalize hSj : impF fs es n m rec fields ds ord (rec, -1, 0) = sj at *
      obtain ⟨rj, dj, nj⟩ := sj
      dsimp only at hS HQ
      have hne : b2 ≠ b1 := by have := hS.out.2.l2; omega
      have hW := hS.out.2.inv.le
      have H9 := Lib.hid hS.out.2
      by_cases hc1 : dj < 0
      · have g1 : decide (dj < 0) = true := by simp [hc1]
        have HQ2 : Hid (q = ((firstS fs es n m rec fields).1, dj)) := Lib.hid (by rw [← HQ.out, if_pos hc1])
        obtain ⟨fq, hfq⟩ : ∃ q, Hid (firstS fs es n m rec fields = q) := ⟨_, Lib.hid rfl⟩
        rw [hfq.out] at HQ2 hfs
        have C3 := Lib.hid (first_any (R.mono hW) wr hS.out.2.inv.fz a1 c1 rec (sr.mono hW) hrl nf af cf fields (sf.mono hW) hfl (by omega) hfr hfq)
        obtain ⟨ar, cr, kk, _⟩ := hS.out.2.ex
        have y2 : wr.cell? ⟨b2, 2, none⟩ = some (.int .i64 dj) := kk.cell 2
        clear kk hS hSj HQ hc1 hW
        go_wp2_with fail
        refine C3.out.mono ?_
        rintro e w5 ⟨φ5, a9, c9, rfl, hi9, s9⟩
        rw [hfs.out]
        have HZ := Lib.hid (H9.out.call hi9)
        have S9 := Lib.hid s9
        have HZ2 := Lib.hid (HZ.out.put S9.out)
        clear hi9 s9 y2
        obtain ⟨ar5, cr5, k5, _⟩ := HZ.out.ex
        have v0 : w5.cell? ⟨b2, 0, none⟩ = some (.slice ar5 n cr5) := k5.cell 0
        have u0 := k5.frz 0
        clear k5
        obtain ⟨arZ, crZ, kZ, sZ⟩ := HZ2.out.ex
        have z0 : _ = some (Value.slice none 0 0) := HZ2.out.k1.cell 0
        have z1 : _ = some (Value.slice none 0 0) := HZ2.out.k1.cell 1
        have z2 : _ = some (Value.int .i64 0) := HZ2.out.k1.cell 2
        have x0 := HZ2.out.k1.frz 0
        have x1 := HZ2.out.k1.frz 1
        have x2 := HZ2.out.k1.frz 2
        have y0 : _ = some (Value.slice arZ n crZ) := kZ.cell 0
        have y1 : _ = some (Value.slice af nf cf) := kZ.cell 1
        have y2 : _ = some (Value.int .i64 dj) := kZ.cell 2
        have hIZ := Lib.hid ((((HZ2.out.inv.setCell HZ2.out.l1 HZ2.out.f1 (off := 0) (.slice arZ n crZ)).setCell HZ2.out.l1 HZ2.out.f1 (off := 1) (.slice af nf cf)).setCell HZ2.out.l1 HZ2.out.f1 (off := 2) (.int .i64 dj)))
        have hBZ := Lib.hid (((HZ2.out.k1.set 0 (.slice arZ n crZ)).set 1 (.slice af nf cf)).set 2 (.int .i64 dj))
        have hSZ := Lib.hid sZ
        clear kZ sZ
        go_wp2
        have e0 : _ = some (Value.slice arZ n crZ) := hBZ.out.cell 0
        have e1 : _ = some (Value.slice af nf cf) := hBZ.out.cell 1
        have e2 : _ = some (Value.int .i64 dj) := hBZ.out.cell 2
        (try simp only [Exit.inBlock, Exit.then])
        refine bodyPost_ret (v := .agg #[.slice arZ n crZ, .slice af nf cf, .int .i64 dj]) (by simp [results, Tryd.results27, go_sem, e0, e1, e2]) rfl ?_
        obtain rfl := HQ2.out
        exact ⟨φ5, arZ, crZ, rfl, hIZ.out, hSZ.out⟩
      · have g1 : decide (dj < 0) = false := by simp [hc1]
        have HQ2 : Hid (q = (rj, dj)) := Lib.hid (by rw [← HQ.out, if_neg hc1])
        clear hS hSj HQ hc1 hW
        obtain ⟨arZ, crZ, kZ, sZ⟩ := H9.out.ex
        have z0 : _ = some (Value.slice none 0 0) := H9.out.k1.cell 0
        have z1 : _ = some (Value.slice none 0 0) := H9.out.k1.cell 1
        have z2 : _ = some (Value.int .i64 0) := H9.out.k1.cell 2
        have x0 := H9.out.k1.frz 0
        have x1 := H9.out.k1.frz 1
        have x2 := H9.out.k1.frz 2
        have y0 : _ = some (Value.slice arZ n crZ) := kZ.cell 0
        have y1 : _ = some (Value.slice af nf cf) := kZ.cell 1
        have y2 : _ = some (Value.int .i64 dj) := kZ.cell 2
        have hIZ := Lib.hid ((((H9.out.inv.setCell H9.out.l1 H9.out.f1 (off := 0) (.slice arZ n crZ)).setCell H9.out.l1 H9.out.f1 (off := 1) (.slice af nf cf)).setCell H9.out.l1 H9.out.f1 (off := 2) (.int .i64 dj)))
        have hBZ := Lib.hid (((H9.out.k1.set 0 (.slice arZ n crZ)).set 1 (.slice af nf cf)).set 2 (.int .i64 dj))
        have hSZ := Lib.hid sZ
        clear kZ sZ
        go_wp2
        have e0 : _ = some (Value.slice arZ n crZ) := hBZ.out.cell 0
        have e1 : _ = some (Value.slice af nf cf) := hBZ.out.cell 1
        have e2 : _ = some (Value.int .i64 dj) := hBZ.out.cell 2
        (try simp only [Exit.inBlock, Exit.then])
        refine bodyPost_ret (v := .agg #[.slice arZ n crZ, .slice af nf cf, .int .i64 dj]) (by simp [results, Tryd.results27, go_sem, e0, e1, e2]) rfl ?_
        obtain rfl := HQ2.out
        exact ⟨φ3, arZ, crZ, rfl, hIZ.out, hSZ.out⟩
end Go.Proofs.YtkfmadeeobalaaaDoor
