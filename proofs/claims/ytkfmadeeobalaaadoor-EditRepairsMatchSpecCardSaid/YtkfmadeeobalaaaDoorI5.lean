/- The walks of the reference's checkRecords and impute. Conditions: the library's table of blanks reads as it was laid. -/
import Derived.Test.YtkfmadeeobalaaaDoorI4
import Derived.Test.YtkfmadeeobalaaaDoorV3
import Derived.Test.YtkfmadeeobalaaaDoorED
namespace Go.Proofs.YtkfmadeeobalaaaDoor
open Go.RowKit
set_option linter.unusedVariables false
theorem RcheckRecords_any
  (n : Nat) (a : Option Addr) (cap : Nat) (fs : List Fld) (m : Nat) (ae : Option Addr) (ce : Nat) (es : List Edt)
    (w : World) (φ : Phi) (hφ : Fz φ w) (s : SlV φ a cap fs) (se : SlV φ ae ce es) (hn : Hid (fs.length = n)) (nl : Nat) (a2 : Option Addr) (c2 : Nat) (l : List (List Int)) (sl : SlV φ a2 c2 l) (hll : Hid (l.length = nl)) {q : Int} (hq : Hid (listF n l = q)) :
    Calls Tryd.prog 30 #[.agg #[.slice a n cap, .slice ae m ce], .slice a2 nl c2] w (IntB q w) := by
  have hc := sl.capn
  have hm := sl.capm
  rw [hll.out] at hc
  unfold maxLen at hm
  have hf := hq.out
  rw [listF, hll.out] at hf
  have hS0 := Lib.hid (BxSt.new hφ #[.slice a n cap, .slice ae m ce] 25)
  by_cases hg : 3000 < nl
  · rw [if_pos hg] at hf
    have HF := Lib.hid hf
    clear hf
    go_enter Tryd.func30, Tryd.ntmps30
    go_wp2
    go_ret
    exact ⟨ret_int HF.out, hS0.out.bel⟩
  · rw [if_neg hg] at hf
    have HF := Lib.hid hf
    clear hf
    go_enter Tryd.func30, Tryd.ntmps30
    go_wp2
    generalize w.alloc (.cells #[.slice a n cap, .slice ae m ce] 25) = W at *
    generalize hbx : w.heap.size = bx at *
    replace hbx := Lib.hid hbx
    go_loopw [13] (fun i wr => ∃ k : Nat, k ≤ nl ∧ i = .int .i64 k ∧ Hid (∀ i, i < k → recF n (l.getD i []) = 0) ∧ Hid (BxSt w φ bx #[.slice a n cap, .slice ae m ce] 25 wr)) (fun i _ => nl - (intOf i).toNat)
    case atStart => exact ⟨0, Nat.zero_le _, rfl, Lib.hid (fun i hi => by omega), hS0⟩
    case round =>
      clear hS0
      obtain ⟨k, hk, rfl, hok, hS⟩ := hrel
      by_cases hlt : k < nl
      · obtain ⟨b3, o3, rfl, f3⟩ := sl.lists hll hlt
        obtain ⟨a4, c4, s4, f3⟩ := f3 k hlt
        have d3 := (f3 wr hS.out.fz).2
        have e0 : wr.cell? ⟨bx, 0, none⟩ = some (.slice a n cap) := hS.out.k.cell 0
        have e1 : wr.cell? ⟨bx, 1, none⟩ = some (.slice ae m ce) := hS.out.k.cell 1
        have HST : Hid (recF n (l.getD k []) ≠ 0 → q = recF n (l.getD k [])) := Lib.hid (fun h => by
          rw [← HF.out, scan_stop hok.out hlt h])
        have HNX : Hid (recF n (l.getD k []) = 0 → ∀ i, i < k + 1 → recF n (l.getD i []) = 0) := Lib.hid (fun h => (next_ok hok h).out)
        clear f3
        generalize l.getD k [] = x at *
        obtain ⟨nx, hnx⟩ : ∃ j, Hid (x.length = j) := ⟨_, Lib.hid rfl⟩
        rw [hnx.out] at d3
        have hl4 := s4.len
        rw [hnx.out] at hl4
        have C := Lib.hid (RcheckRecord_any n a cap fs m ae ce es wr φ hS.out.fz s se hn nx a4 c4 x s4 hnx hl4 (Lib.hid rfl))
        generalize recF n x = fx at *
        by_cases hz : fx = 0
        · subst hz
          have H2 := Lib.hid (HNX.out rfl)
          go_wp2_with (go_at_call 38; refine C.out.mono ?_; rintro e w' ⟨rfl, hb5⟩)
          go_roundw
          case rel => exact ⟨k + 1, by omega, by go_num, H2, Lib.hid (hS.out.callB hb5)⟩
          case measure => (simp [intOf] <;> omega)
        · have H2 := Lib.hid (HST.out hz)
          have hb : (fx != 0) = true := by simp [hz]
          clear hz
          go_wp2_with (go_at_call 38; refine C.out.mono ?_; rintro e w' ⟨rfl, hb5⟩)
          go_ret
          exact ⟨ret_int H2.out.symm, (hS.out.callB hb5).bel⟩
      · obtain rfl : k = nl := by omega
        go_wp2
        go_ret
        exact ⟨ret_int (by rw [← HF.out, scan_zero _ _ hok.out]), hS.out.bel⟩
/-- A repair in the making, next to a record in the making. -/
structure RnSt (w0 : World) (φ0 φ : Phi) (b1 b2 : Nat) (af : Option Addr) (nf cf n : Nat) (r : List Int) (dn : Int) (a5 : Option Addr) (c5 : Nat) (xs : List Int) (wr : World) : Prop where
  im : ImSt w0 φ0 φ b1 b2 af nf cf n r dn wr
  o : Own w0.heap.size φ wr 3 a5 c5 xs
  ne : ∀ x, a5 = some x → b2 < x.block
section
variable {w0 wr w' : World} {φ0 φ φ' : Phi} {b1 b2 : Nat} {af : Option Addr} {nf cf n : Nat} {r r' : List Int} {dn dn' : Int} {a5 : Option Addr} {c5 : Nat} {xs xs' : List Int}
theorem ImSt.blt (h : ImSt w0 φ0 φ b1 b2 af nf cf n r dn wr) : b2 < wr.heap.size := by obtain ⟨_, _, k, _⟩ := h.ex; exact k.lt
theorem ImSt.clone (h : ImSt w0 φ0 φ b1 b2 af nf cf n r dn wr) (hi : Inv wr.heap.size wr φ φ w') (ho : Own wr.heap.size φ w' 3 a5 c5 xs) : RnSt w0 φ0 φ b1 b2 af nf cf n r dn a5 c5 xs w' :=
  ⟨h.callB hi.bel, ho.base h.inv.size, fun x hx => by have := h.blt; have := (ho.lt x hx).1; omega⟩
theorem RnSt.callB (h : RnSt w0 φ0 φ b1 b2 af nf cf n r dn a5 c5 xs wr) (hb : Below wr.heap.size wr w') : RnSt w0 φ0 φ b1 b2 af nf cf n r dn a5 c5 xs w' := ⟨h.im.callB hb, h.o.callB hb, h.ne⟩
theorem ImSt.row (h : ImSt w0 φ0 φ b1 b2 af nf cf n r dn wr) {g k : Nat} {v : Value} (hg : b2 < g) (hφ : φ g = none) : ImSt w0 φ0 φ b1 b2 af nf cf n r dn (wr.setCell ⟨g, k, none⟩ v) := by
  obtain ⟨ar, cr, k2, s2⟩ := h.ex
  have l1 := h.l1
  have l2 := h.l2
  exact ⟨h.inv.setCell (by omega) hφ _, ⟨ar, cr, k2.other (by show g ≠ b2; omega) _, s2⟩, h.k1.other (by show g ≠ b1; omega) _, h.f1, h.f2, h.l1, h.l2⟩
theorem RnSt.put {g k : Nat} {v : Value} (h : RnSt w0 φ0 φ b1 b2 af nf cf n r dn (some ⟨g, 0, none⟩) c5 xs wr) (ho : Own w0.heap.size φ (wr.setCell ⟨g, k, none⟩ v) 3 (some ⟨g, 0, none⟩) c5 xs') : RnSt w0 φ0 φ b1 b2 af nf cf n r dn (some ⟨g, 0, none⟩) c5 xs' (wr.setCell ⟨g, k, none⟩ v) :=
  ⟨h.im.row (h.ne _ rfl) (h.o.free _ rfl), ho, h.ne⟩
theorem RnSt.shut (h : RnSt w0 φ0 φ b1 b2 af nf cf n r dn a5 c5 xs wr) : ∃ φ', φ.le φ' ∧ ImSt w0 φ0 φ' b1 b2 af nf cf n r dn wr ∧ SlV φ' a5 c5 xs := by
  obtain ⟨φ', l', i', s', f'⟩ := h.o.release h.im.inv
  obtain ⟨ar, cr, k2, s2⟩ := h.im.ex
  have l2 := h.im.l2
  have hne : ∀ b, b ≤ b2 → some b ≠ a5.map (·.block) := fun b hb e => by
    cases a5 with
    | none => cases e
    | some x => have := h.ne x rfl; have e2 : b = x.block := by simpa using e
                omega
  exact ⟨φ', l', ⟨i', ⟨ar, cr, k2, s2.mono l'⟩, h.im.k1, (f' _ (hne b1 (by omega))).trans h.im.f1, (f' _ (hne b2 (Nat.le_refl _))).trans h.im.f2, h.im.l1, h.im.l2⟩, s'⟩
end
theorem ImSt.init {w0 wr w' : World} {φ0 φ φ' : Phi} {b1 : Nat} {af a9 : Option Addr} {nf cf n c9 : Nat} {r : List Int} {dn : Int} (h : ResSt w0 φ0 φ b1 #[.slice none 0 0, .slice none 0 0, .int .i64 0] 34 wr)
    (hi : Inv (wr.alloc (.cells #[.slice none 0 0, .slice af nf cf, .int .i64 dn] 34)).heap.size (wr.alloc (.cells #[.slice none 0 0, .slice af nf cf, .int .i64 dn] 34)) φ φ' w') (s : SlV φ' a9 c9 r) :
    ImSt w0 φ0 φ' b1 wr.heap.size af nf cf n r dn (w'.setCell ⟨wr.heap.size, 0, none⟩ (.slice a9 n c9)) ∧ Blk w' wr.heap.size #[.slice none 0 0, .slice af nf cf, .int .i64 dn] 34 := by
  have hs := alloc_size wr (.cells #[.slice none 0 0, .slice af nf cf, .int .i64 dn] 34)
  have hk := h.k.lt
  have hl := h.l
  have k2 := (Blk.new wr #[.slice none 0 0, .slice af nf cf, .int .i64 dn] 34).callB hi.bel
  have f2 : φ' wr.heap.size = none := (hi.new _ (by omega)).trans (h.inv.fz.new_none (Nat.le_refl _))
  exact ⟨⟨((h.inv.alloc _).call hi).setCell h.inv.size f2 _, ⟨a9, c9, k2.set 0 _, s⟩, ((h.k.alloc _).callB hi.bel).other (by show wr.heap.size ≠ b1; omega) _, (hi.new _ (by omega)).trans h.f, f2, h.l, hk⟩, k2⟩
def RbPost (r : Rpr) (b : Bool) (φ : Phi) (w : World) (e : Ending) (w' : World) : Prop :=
  ∃ φ' ar nr cr af nf cf, e = .returned (.tuple #[.agg #[.slice ar nr cr, .slice af nf cf, .int .i64 r.2.2], .bool b]) ∧ Inv w.heap.size w φ φ' w' ∧ SlV φ' ar cr r.1 ∧ SlV φ' af cf r.2.1 ∧ r.1.length = nr ∧ r.2.1.length = nf
noncomputable def rimpR (fs : List Fld) (es : List Edt) (n m : Nat) (rec : List Int) (ds : List (List Int)) (seed : ByteArray) : Rpr × Bool :=
  if (leastS fs es n m rec).1.2.2 = true then (((impR fs es n m rec (leastS fs es n m rec).1.1 ds (shufF seed ds.length)).1, (leastS fs es n m rec).1.1, (impR fs es n m rec (leastS fs es n m rec).1.1 ds (shufF seed ds.length)).2), true)
  else (([], [], 0), false)
set_option maxRecDepth 100000 in
set_option maxHeartbeats 2000000 in
theorem Rimpute_any
  (n : Nat) (a : Option Addr) (cap : Nat) (fs : List Fld) (m : Nat) (ae : Option Addr) (ce : Nat) (es : List Edt)
    (ok : Hid (PlOk fs es n m)) (w : World) (φ : Phi) (hφ : Fz φ w) (s : SlV φ a cap fs) (se : SlV φ ae ce es) (a1 : Option Addr) (c1 : Nat) (rec : List Int) (sr : SlV φ a1 c1 rec) (hrl : Hid (rec.length = n))
    (nd : Nat) (ad : Option Addr) (cd : Nat) (ds : List (List Int)) (sd : SlV φ ad cd ds) (hdl : Hid (ds.length = nd)) (hnd : nd ≤ 3000) (hdr : Hid (∀ i, i < nd → (ds.getD i []).length = n)) (seed : ByteArray) (hsd : seed.size ≤ 9223372036854775806)
    {r : Rpr} {b : Bool} (hq : Hid (rimpR fs es n m rec ds seed = (r, b))) :
    Calls Tryd.prog 33 #[.agg #[.slice a n cap, .slice ae m ce], .slice a1 n c1, .slice ad nd cd, .string seed] w (RbPost r b φ w) := by
  have hn12 := ok.out.pos
  have hfl := Lib.hid ok.out.len
  obtain ⟨φ1, le1, i1, k1⟩ := (Inv.start hφ).frz (.cells #[.slice a n cap, .slice ae m ce] 25)
  have hRS := Lib.hid (ResSt.start i1 #[.slice none 0 0, .slice none 0 0, .int .i64 0] 34)
  rw [alloc_size] at hRS
  have K1 := Lib.hid k1
  have LE1 := Lib.hid le1
  have HBX := Lib.hid (fun (φ' : Phi) (h : φ1.le φ') (w' : World) (hf : Fz φ' w') => (hf.blk (h _ _ k1)))
  clear i1 k1 le1
  obtain ⟨lq, hlq⟩ : ∃ q, Hid (leastS fs es n m rec = q) := ⟨_, Lib.hid rfl⟩
  obtain ⟨⟨l, lw, fo⟩, bb⟩ := lq
  have hq2 := hq.out
  rw [rimpR, hlq.out] at hq2
  dsimp only at hq2
  have HQ0 := Lib.hid hq2
  have C1 := Lib.hid (Rleast_any n a cap fs m ae ce es ok ((w.alloc (.cells #[.slice a n cap, .slice ae m ce] 25)).alloc (.cells #[.slice none 0 0, .slice none 0 0, .int .i64 0] 34)) φ1 hRS.out.inv.fz (s.mono LE1.out) (se.mono LE1.out) a1 c1 rec (sr.mono LE1.out) hrl (l := if fo = true then l else []) (b := fo) (Lib.hid (by rw [hlq.out]; cases fo <;> rfl)))
  have p0 : ((w.alloc (.cells #[.slice a n cap, .slice ae m ce] 25)).alloc (.cells #[.slice none 0 0, .slice none 0 0, .int .i64 0] 34)).cell? ⟨w.heap.size, 0, none⟩ = some (.slice a n cap) := (hRS.out.inv.fz.blk K1.out).cell 0
  have p1 : ((w.alloc (.cells #[.slice a n cap, .slice ae m ce] 25)).alloc (.cells #[.slice none 0 0, .slice none 0 0, .int .i64 0] 34)).cell? ⟨w.heap.size, 1, none⟩ = some (.slice ae m ce) := (hRS.out.inv.fz.blk K1.out).cell 1
  clear hq hq2
  go_enter Tryd.func33, Tryd.ntmps33
  go_wp2_with fail
  clear p0 p1
  generalize hbp : w.heap.size = bp at *
  replace hbp := Lib.hid hbp
  generalize bp + 1 = b1 at *
  cases fo with
  | false =>
    have HQ : Hid ((([], [], 0), false) = (r, b)) := Lib.hid (by rw [← HQ0.out, if_neg (by simp)])
    refine C1.out.mono ?_
    rintro e w2 ⟨φ2, a5, c5, rfl, hi2, s5⟩
    have H2 := Lib.hid (hRS.out.call hi2)
    clear hi2
    have z0 : _ = some (Value.slice none 0 0) := H2.out.k.cell 0
    have z1 : _ = some (Value.slice none 0 0) := H2.out.k.cell 1
    have z2 : _ = some (Value.int .i64 0) := H2.out.k.cell 2
    have x0 := H2.out.k.frz 0
    have x1 := H2.out.k.frz 1
    have x2 := H2.out.k.frz 2
    have hIZ := Lib.hid (((H2.out.inv.setCell H2.out.l H2.out.f (off := 0) (Value.slice none 0 0)).setCell H2.out.l H2.out.f (off := 1) (Value.slice none 0 0)).setCell H2.out.l H2.out.f (off := 2) (Value.int .i64 0))
    have hBZ := Lib.hid (((H2.out.k.set 0 (Value.slice none 0 0)).set 1 (Value.slice none 0 0)).set 2 (Value.int .i64 0))
    go_wp2
    have e0 : _ = some (Value.slice none 0 0) := hBZ.out.cell 0
    have e1 : _ = some (Value.slice none 0 0) := hBZ.out.cell 1
    have e2 : _ = some (Value.int .i64 0) := hBZ.out.cell 2
    (try simp only [Exit.inBlock, Exit.then])
    refine bodyPost_ret (v := .tuple #[.agg #[(Value.slice none 0 0), (Value.slice none 0 0), (Value.int .i64 0)], (.bool false)]) (by simp [results, Tryd.results33, go_sem, e0, e1, e2]) rfl ?_
    obtain ⟨rfl, rfl⟩ := Prod.mk.inj HQ.out
    exact ⟨_, none, 0, 0, none, 0, 0, rfl, hIZ.out, SlV.empty _, SlV.empty _, rfl, rfl⟩
  | true =>
    have hlaw := least_law ok.out hrl.out (l := l) (lw := lw) (by rw [hlq.out])
    have hfr : Hid (∀ x ∈ l, 0 ≤ x ∧ x < (n : Int)) := Lib.hid (fun x hx => freeF_zero hlaw.1 x hx)
    have hso := Lib.hid (freeF_sorted hlaw.1)
    have hfs : Hid ((firstS fs es n m rec l).1.length = n) := Lib.hid hlaw.2.2.2.1
    have hnone : Hid (l = [] → (firstS fs es n m rec l).1 = rec) := Lib.hid (fun h => by subst h; exact (firstS_none hrl.out hlaw.2.1).1)
    have hln : l.length ≤ n := by
      have hI := leastS_inv fs es n m rec
      rw [hlq.out] at hI
      obtain ⟨_, ⟨x, _, _, he⟩, _⟩ := hI.yes rfl
      dsimp only at he
      rw [he]
      exact apL_len _ _ _
    clear hlaw
    have hq2 := HQ0.out
    rw [if_pos rfl, hdl.out] at hq2
    have HQ1 := Lib.hid hq2
    obtain ⟨nf, hnf⟩ : ∃ k, Hid (l.length = k) := ⟨_, Lib.hid rfl⟩
    obtain ⟨fq, hfq⟩ : ∃ q, Hid (firstS fs es n m rec l = q) := ⟨_, Lib.hid rfl⟩
    clear hq2 HQ0
    refine C1.out.mono ?_
    rintro e w2 ⟨φ2, af, cf, rfl, hi2, s5⟩
    rw [if_pos rfl] at s5 ⊢
    rw [hnf.out]
    have hnfc := s5.capn
    have hnfm := s5.capm
    rw [hnf.out] at hnfc hln
    unfold maxLen at hnfm
    have H2 := Lib.hid (hRS.out.call hi2)
    have S5 := Lib.hid s5
    have L2 := Lib.hid hi2.le
    have q0 : (w2.alloc (.cells #[.slice none 0 0, .slice af nf cf, .int .i64 (-1)] 34)).cell? ⟨bp, 0, none⟩ = some (.slice a n cap) := (HBX.out φ2 hi2.le (w2.alloc (.cells #[.slice none 0 0, .slice af nf cf, .int .i64 (-1)] 34)) (hi2.fz.alloc _)).cell 0
    have q1 : (w2.alloc (.cells #[.slice none 0 0, .slice af nf cf, .int .i64 (-1)] 34)).cell? ⟨bp, 1, none⟩ = some (.slice ae m ce) := (HBX.out φ2 hi2.le (w2.alloc (.cells #[.slice none 0 0, .slice af nf cf, .int .i64 (-1)] 34)) (hi2.fz.alloc _)).cell 1
    clear hi2 s5 C1 hRS
    have LE2 := Lib.hid (LE1.out.trans L2.out)
    go_wp2_with fail
    refine (Rfirst_any n a cap fs m ae ce es (w2.alloc (.cells #[.slice none 0 0, .slice af nf cf, .int .i64 (-1)] 34)) φ2 (H2.out.inv.fz.alloc _) (s.mono LE2.out) (se.mono LE2.out) ok.out a1 c1 rec (sr.mono LE2.out) hrl nf af cf l S5.out hnf (by omega) hfr hso.out hfq).mono ?_
    rintro e w3 ⟨φ3, a9, c9, rfl, hi3, s9⟩
    rw [hfq.out] at hfs hnone
    rw [hfs.out]
    obtain ⟨im, kk⟩ := ImSt.init (n := n) H2.out hi3 s9
    have HIM := Lib.hid im
    have v0 : w3.cell? ⟨w2.heap.size, 0, none⟩ = some (.slice none 0 0) := kk.cell 0
    have u0 := kk.frz 0
    have L3 := Lib.hid (LE2.out.trans hi3.le)
    have L13 := Lib.hid (L2.out.trans hi3.le)
    have S53 := Lib.hid (S5.out.mono hi3.le)
    clear im kk hi3 s9 q0 q1 H2 S5
    generalize w2.heap.size = b2 at *
    by_cases h0 : nf = 0
    · subst h0
      have hl0 : l = [] := List.eq_nil_of_length_eq_zero hnf.out
      have HQ : Hid (((fq.1, l, -1), true) = (r, b)) := Lib.hid (by rw [← HQ1.out, impR, if_pos (by rw [hl0]; rfl), hnone.out hl0])
      clear hl0
      obtain ⟨arZ, crZ, kZ, sZ⟩ := HIM.out.ex
      have y0 : _ = some (Value.slice arZ n crZ) := kZ.cell 0
      have y1 : _ = some (Value.slice af 0 cf) := kZ.cell 1
      have y2 : _ = some (Value.int .i64 (-1)) := kZ.cell 2
      have hSZ := Lib.hid sZ
      clear kZ sZ
      have z0 : _ = some (Value.slice none 0 0) := HIM.out.k1.cell 0
      have z1 : _ = some (Value.slice none 0 0) := HIM.out.k1.cell 1
      have z2 : _ = some (Value.int .i64 0) := HIM.out.k1.cell 2
      have x0 := HIM.out.k1.frz 0
      have x1 := HIM.out.k1.frz 1
      have x2 := HIM.out.k1.frz 2
      have hIZ := Lib.hid (((HIM.out.inv.setCell HIM.out.l1 HIM.out.f1 (off := 0) (Value.slice arZ n crZ)).setCell HIM.out.l1 HIM.out.f1 (off := 1) (Value.slice af 0 cf)).setCell HIM.out.l1 HIM.out.f1 (off := 2) (Value.int .i64 (-1)))
      have hBZ := Lib.hid (((HIM.out.k1.set 0 (Value.slice arZ n crZ)).set 1 (Value.slice af 0 cf)).set 2 (Value.int .i64 (-1)))
      go_wp2
      have e0 : _ = some (Value.slice arZ n crZ) := hBZ.out.cell 0
      have e1 : _ = some (Value.slice af 0 cf) := hBZ.out.cell 1
      have e2 : _ = some (Value.int .i64 (-1)) := hBZ.out.cell 2
      (try simp only [Exit.inBlock, Exit.then])
      refine bodyPost_ret (v := .tuple #[.agg #[(Value.slice arZ n crZ), (Value.slice af 0 cf), (Value.int .i64 (-1))], (.bool true)]) (by simp [results, Tryd.results33, go_sem, e0, e1, e2]) rfl ?_
      obtain ⟨rfl, rfl⟩ := Prod.mk.inj HQ.out
      exact ⟨φ3, arZ, n, crZ, af, 0, cf, rfl, hIZ.out, hSZ.out, S53.out, hfs.out, hnf.out⟩
    have hnfb : ((nf : Int) == 0) = false := by simp [h0]
    have hfne : l.length ≠ 0 := by rw [hnf.out]; exact h0
    obtain ⟨ord, hord⟩ : ∃ o, Hid (shufF seed nd = o) := ⟨_, Lib.hid rfl⟩
    have hol : Hid (ord.length = nd) := Lib.hid (by rw [← hord.out, shufF_len])
    have hor : Hid (∀ x ∈ ord, 0 ≤ x ∧ x < (nd : Int)) := Lib.hid (by rw [← hord.out]; exact shufF_rng _ _)
    have hq2 := HQ1.out
    rw [hord.out, impR_first hfne (fun k hk => (hor.out k hk).1), hfq.out] at hq2
    dsimp only at hq2
    have HQ := Lib.hid hq2
    have C := Lib.hid (fun (w : World) (φ : Phi) (h : Fz φ w) => RShuffle_any seed nd w φ h hsd (by omega) hord)
    have hIL := Lib.hid (impR_len (fs := fs) (es := es) (n := n) (m := m) (rec := rec) (fields := l) (ds := ds) (order := ord) hrl.out (fun _ => by rw [hfq.out]; exact hfs.out) (by rw [hdl.out]; exact hor.out))
    rw [impR_first hfne (fun k hk => (hor.out k hk).1), hfq.out] at hIL
    dsimp only at hIL
    clear hq2 HQ1 hfne
    go_wp2_with fail
    generalize (w3.setCell ⟨b2, 0, none⟩ (.slice a9 n c9)) = w4 at *
    clear v0 u0
    refine (C.out w4 φ3 HIM.out.inv.fz).mono ?_
    rintro e w5 ⟨a6, c6, rfl, hi6, ho6⟩
    rw [hol.out]
    obtain ⟨φ4, l4, i4, s4, _⟩ := ho6.release hi6
    have S4 := Lib.hid s4
    have L14 := Lib.hid (L13.out.trans l4)
    have S54 := Lib.hid (S53.out.mono l4)
    have LF := Lib.hid (L3.out.trans l4)
    have HS2 : Hid (φ4.le φ4 ∧ ImSt w φ φ4 b1 b2 af nf cf n (impF fs es n m rec l ds (ord.take 0) (fq.1, -1, 0)).1 (impF fs es n m rec l ds (ord.take 0) (fq.1, -1, 0)).2.1 w5) := Lib.hid ⟨φ4.le_refl, HIM.out.call i4⟩
    clear hi6 ho6 l4 i4 s4 HIM S53 L3 L13
    go_wp2
    go_loopw [13, 55] (fun nv i wr => ∃ (j : Nat) (φ' : Phi), j ≤ nd ∧ nv = .int .i64 (impF fs es n m rec l ds (ord.take j) (fq.1, -1, 0)).2.2 ∧ i = .int .i64 j ∧ Hid (φ4.le φ' ∧ ImSt w φ φ' b1 b2 af nf cf n (impF fs es n m rec l ds (ord.take j) (fq.1, -1, 0)).1 (impF fs es n m rec l ds (ord.take j) (fq.1, -1, 0)).2.1 wr)) (fun _ i _ => nd - (intOf i).toNat)
    case atStart => exact ⟨0, φ4, Nat.zero_le _, rfl, rfl, HS2⟩
    case round =>
      clear HS2
      obtain ⟨j, φ5, hj, rfl, rfl, hS⟩ := hrel
      by_cases hlt : j < nd
      · obtain ⟨b3, o3, rfl, f3⟩ := S4.out.intsD hol hlt
        have d3 := (f3 j hlt wr (hS.out.2.inv.fz.sub hS.out.1)).2
        have hri := hor.out (ord.getD j 0) (by rw [getD_elem0 _ _ _ (by rw [hol.out]; exact hlt)]; exact List.getElem_mem _)
        have HT := Lib.hid (take_snocD 0 ord j nd hol.out hlt)
        obtain ⟨k, hk⟩ : ∃ k : Nat, ord.getD j 0 = k := ⟨(ord.getD j 0).toNat, by omega⟩
        rw [hk] at d3 hri HT
        have hkn : k < nd := by omega
        have HN : Hid (impF fs es n m rec l ds (ord.take (j + 1)) (fq.1, -1, 0) = impV fs es n m rec l ds (impF fs es n m rec l ds (ord.take j) (fq.1, -1, 0)) k) := Lib.hid (by rw [HT.out, impF_snoc])
        have hW := LF.out.trans hS.out.1
        have sd5 := sd.mono hW
        have sr5 := sr.mono hW
        have s5 := s.mono hW
        have se5 := se.mono hW
        have S55 := Lib.hid (S54.out.mono hS.out.1)
        have L15 := Lib.hid (L14.out.trans hS.out.1)
        obtain ⟨b4, o4, rfl, f4⟩ := sd5.lists hdl hkn
        obtain ⟨a4, c4, s4, f4⟩ := f4 k hkn
        have hdn := Lib.hid (hdr.out k hkn)
        have d4 := (f4 wr hS.out.2.inv.fz).2
        have hkk : ((k : Int)).toNat = k := by omega
        rw [impV, hkk] at HN
        rw [hdn.out] at d4
        obtain ⟨d, hd⟩ : ∃ d, Hid (ds.getD k [] = d) := ⟨_, Lib.hid rfl⟩
        rw [hd.out] at s4 HN hdn
        generalize hSj : impF fs es n m rec l ds (ord.take j) (fq.1, -1, 0) = sj at *
        obtain ⟨rj, dj, nj⟩ := sj
        dsimp only at hS HN
        have hk2 := Lib.hid hk
        clear f3 f4 hri hW hkk HT hSj hk sd5
        go_wp2_with fail
        refine (Clone_n hS.out.2.inv.fz sr5 hrl (by omega)).mono ?_
        rintro e w6 ⟨a5, c5, rfl, hi6, ho6⟩
        have HR0 : Hid (RnSt w φ φ5 b1 b2 af nf cf n rj dj a5 c5 (nowK rec d l 0) w6) := Lib.hid (by rw [nowK_zero]; exact hS.out.2.clone hi6 ho6)
        have q0 : w6.cell? ⟨bp, 0, none⟩ = some (.slice a n cap) := (HBX.out φ5 L15.out w6 HR0.out.im.inv.fz).cell 0
        have L45 := Lib.hid hS.out.1
        clear hi6 ho6 hS d3 d4
        go_wp2
        go_loopw [20, 68] (fun fv i wr => ∃ (q : Nat), q ≤ n ∧ fv = .int .i64 (farK fs rec d l q) ∧ i = .int .i64 q ∧ Hid (RnSt w φ φ5 b1 b2 af nf cf n rj dj a5 c5 (nowK rec d l q) wr)) (fun _ i _ => n - (intOf i).toNat)
        case atStart => exact ⟨0, Nat.zero_le _, rfl, rfl, HR0⟩
        case round =>
          clear HR0 q0
          obtain ⟨q, hq, rfl, rfl, hR⟩ := hrel
          by_cases hql : q < n
          · obtain ⟨bF, oF, haF, f1⟩ := s5.fldD hfl hql
            obtain ⟨a3, c3, s3, f1⟩ := f1 q hql
            obtain ⟨_, d1, d2, d3⟩ := f1 wr hR.out.im.inv.fz
            have hwt := wts ok.out (k := (q : Int)) (by omega) (by omega)
            have hbd := farK_bd (fs := fs) (es := es) (rec := rec) (d := d) (fields := l) ok.out hq
            have HTt := Lib.hid (fun h => farK_t (fs := fs) (rec := rec) (d := d) (fields := l) (n := n) (k := q) hrl.out hfr.out h)
            have HTe := Lib.hid (fun h he => farK_e (fs := fs) (rec := rec) (d := d) (fields := l) (n := n) (k := q) hrl.out hfr.out h he)
            have HTn := Lib.hid (fun h he => farK_n (fs := fs) (rec := rec) (d := d) (fields := l) (n := n) (k := q) hrl.out hfr.out h he)
            have HNt := Lib.hid (fun h => nowK_t (rec := rec) (d := d) (fields := l) (k := q) (by rw [hrl.out]; exact hql) h)
            have HNf := Lib.hid (fun h => nowK_f (rec := rec) (d := d) (fields := l) (k := q) h)
            have hwk : wOf fs (q : Int) = (fs.getD q fld0).2.2 := rfl
            rw [hwk] at hwt
            subst haF
            clear f1 hwk
            generalize fs.getD q fld0 = X at *
            obtain ⟨nk, ck, wk⟩ := X
            dsimp only at d1 d2 d3 hwt HTn s3
            obtain ⟨nc, hnc⟩ : ∃ j, Hid (ck.length = j) := ⟨_, Lib.hid rfl⟩
            rw [hnc.out] at d2
            generalize farK fs rec d l q = F0 at *
            have hR2 := Lib.hid (hR.out.callB ((Below.refl _ _).alloc (Nat.le_refl _) (.cells #[.string nk, .slice a3 nc c3, .int .i64 wk] 92)))
            have g2 : (wr.alloc (.cells #[.string nk, .slice a3 nc c3, .int .i64 wk] 92)).cell? ⟨wr.heap.size, 2, none⟩ = some (.int .i64 wk) := box_at 2
            obtain ⟨bI, hbI⟩ : ∃ b, decide ((q : Int) ∈ l) = b := ⟨_, rfl⟩
            have C5 := Lib.hid (Contains_q nf af cf l (q : Int) (wr.alloc (.cells #[.string nk, .slice a3 nc c3, .int .i64 wk] 92)) φ5 hR2.out.im.inv.fz S55.out hnf (by omega) hbI)
            have HF5 := Lib.hid hR2.out.im.inv.fz
            obtain ⟨bD, oD, haD, fD⟩ := s4.intsD hdn hql
            have dD := (fD q hql _ HF5.out).2
            subst haD
            obtain ⟨bR, oR, haR, fR⟩ := sr5.intsD hrl hql
            have dR := (fR q hql _ HF5.out).2
            subst haR
            clear fD fR hR
            cases bI with
            | true =>
              have hin := of_decide_eq_true hbI
              have H1 := Lib.hid (HTt.out hin)
              have H2 := Lib.hid (HNt.out hin)
              obtain ⟨g, hg, hgl, fO⟩ := hR2.out.o.intsD (n := n) (Lib.hid ((nowK_len _ _ _ _).trans hrl.out)) hql
              subst hg
              obtain ⟨e5, e6, hst⟩ := fO q hql
              have HST := Lib.hid (hR2.out.put (hst (d.getD q 0) w φ hR2.out.im.inv).1)
              clear hin hbI HTt HTe HTn HNt HNf fO hst hgl
              go_wp2_with (go_at_call 81; refine C5.out.mono ?_; rintro e w7 ⟨rfl, rfl⟩)
              go_roundw
              case rel => exact ⟨q + 1, by omega, by rw [H1.out], by go_num, by rw [H2.out]; exact HST⟩
              case measure => (simp [intOf] <;> omega)
            | false =>
              have hin := of_decide_eq_false hbI
              have H2 := Lib.hid (HNf.out hin)
              have HTe2 := Lib.hid (HTe.out hin)
              have HTn2 := Lib.hid (HTn.out hin)
              clear hin hbI HTt HTe HTn HNt HNf
              generalize d.getD q 0 = dv at *
              generalize rec.getD q 0 = rv at *
              by_cases he : dv = rv
              · have hne : (dv != rv) = false := by simp [he]
                have H1 := Lib.hid (HTe2.out he)
                clear he HTe2 HTn2
                go_wp2_with (go_at_call 81; refine C5.out.mono ?_; rintro e w7 ⟨rfl, rfl⟩)
                go_quiet (fail)
                go_wp2
                go_roundw
                case rel => exact ⟨q + 1, by omega, by rw [H1.out], by go_num, by rw [H2.out]; exact Lib.hid (hR2.out.callB (bdrewN (Below.refl _ _) _))⟩
                case measure => (simp [intOf] <;> omega)
              · have hne : (dv != rv) = true := by simp [he]
                have H1 := Lib.hid (HTn2.out he)
                clear he HTe2 HTn2
                go_wp2_with (go_at_call 81; refine C5.out.mono ?_; rintro e w7 ⟨rfl, rfl⟩)
                go_quiet (fail)
                go_wp2
                go_roundw
                case rel => exact ⟨q + 1, by omega, by rw [H1.out], by go_num, by rw [H2.out]; exact Lib.hid (hR2.out.callB (bdrewN (Below.refl _ _) _))⟩
                case measure => (simp [intOf] <;> omega)
          · obtain rfl : q = n := by omega
            rw [nowK_all hrl.out hfr.out] at hR
            obtain ⟨φ6, l6, im6, s6⟩ := hR.out.shut
            have L46 := Lib.hid (L45.out.trans l6)
            have H6 := Lib.hid im6
            have s6' := Lib.hid s6
            have S46 := Lib.hid (s4.mono l6)
            have sp6 := s5.mono l6
            have se6 := se5.mono l6
            have L16 := Lib.hid (L15.out.trans l6)
            have q0 : wr.cell? ⟨bp, 0, none⟩ = some (.slice a q cap) := (HBX.out φ6 L16.out wr im6.inv.fz).cell 0
            have q1 : wr.cell? ⟨bp, 1, none⟩ = some (.slice ae m ce) := (HBX.out φ6 L16.out wr im6.inv.fz).cell 1
            obtain ⟨x, hx⟩ : ∃ x, Hid (takenF rec d l = x) := ⟨_, Lib.hid rfl⟩
            obtain ⟨far, hfar⟩ : ∃ y, Hid (farK fs rec d l q = y) := ⟨_, Lib.hid rfl⟩
            have hxl : Hid (x.length = q) := Lib.hid (by rw [← hx.out, takenF_len]; exact hrl.out)
            rw [hx.out, hfar.out] at HN
            rw [hx.out] at s6'
            rw [hfar.out]
            obtain ⟨pa, hpa⟩ : ∃ b, Hid (passB fs es x q m = b) := ⟨_, Lib.hid rfl⟩
            obtain ⟨pd, hpd⟩ : ∃ b, Hid (passB fs es d q m = b) := ⟨_, Lib.hid rfl⟩
            rw [hpa.out, hpd.out] at HN
            clear hR l6 im6 s6
            cases pd with
            | false =>
              have HN2 : Hid (impF fs es q m rec l ds (ord.take (j + 1)) (fq.1, -1, 0) = (rj, dj, nj)) := Lib.hid (by rw [HN.out, if_neg (fun h => by cases h.2.2)])
              go_wp2_with (first
                | (go_at_call 32; refine (Rpasses_any q a cap fs m ae ce es w7 φ6 H7.out.inv.fz sp6 se6 ok.out a5 c5 x s6'.out hxl hpa.out).mono ?_; rintro e w8 ⟨rfl, hb8⟩; have H8 := Lib.hid (H7.out.callB hb8); obtain ⟨ar8, cr8, k8, _⟩ := H8.out.ex; have v0 : w8.cell? ⟨b2, 0, none⟩ = some (.slice ar8 q cr8) := k8.cell 0; have v2 : w8.cell? ⟨b2, 2, none⟩ = some (.int .i64 dj) := k8.cell 2; have u0 := k8.frz 0; have u2 := k8.frz 2; clear hb8 k8)
                | (go_at_call 32; refine (Rpasses_any q a cap fs m ae ce es wr φ6 H6.out.inv.fz sp6 se6 ok.out a4 c4 d S46.out hdn hpd.out).mono ?_; rintro e w7 ⟨rfl, hb7⟩; have H7 := Lib.hid (H6.out.callB hb7); have t0 : w7.cell? ⟨bp, 0, none⟩ = some (.slice a q cap) := (HBX.out φ6 L16.out w7 H7.out.inv.fz).cell 0; have t1 : w7.cell? ⟨bp, 1, none⟩ = some (.slice ae m ce) := (HBX.out φ6 L16.out w7 H7.out.inv.fz).cell 1; clear hb7))
              go_roundw
              case rel => exact ⟨j + 1, φ6, by omega, by rw [HN2.out], by go_num, by rw [HN2.out]; exact Lib.hid ⟨L46.out, H7.out⟩⟩
              case measure => (simp [intOf] <;> omega)
            | true =>
              cases pa with
              | false =>
                have HN2 : Hid (impF fs es q m rec l ds (ord.take (j + 1)) (fq.1, -1, 0) = (rj, dj, nj)) := Lib.hid (by rw [HN.out, if_neg (fun h => by cases h.2.1)])
                go_wp2_with (first
                  | (go_at_call 32; refine (Rpasses_any q a cap fs m ae ce es w7 φ6 H7.out.inv.fz sp6 se6 ok.out a5 c5 x s6'.out hxl hpa.out).mono ?_; rintro e w8 ⟨rfl, hb8⟩; have H8 := Lib.hid (H7.out.callB hb8); obtain ⟨ar8, cr8, k8, _⟩ := H8.out.ex; have v0 : w8.cell? ⟨b2, 0, none⟩ = some (.slice ar8 q cr8) := k8.cell 0; have v2 : w8.cell? ⟨b2, 2, none⟩ = some (.int .i64 dj) := k8.cell 2; have u0 := k8.frz 0; have u2 := k8.frz 2; clear hb8 k8)
                  | (go_at_call 32; refine (Rpasses_any q a cap fs m ae ce es wr φ6 H6.out.inv.fz sp6 se6 ok.out a4 c4 d S46.out hdn hpd.out).mono ?_; rintro e w7 ⟨rfl, hb7⟩; have H7 := Lib.hid (H6.out.callB hb7); have t0 : w7.cell? ⟨bp, 0, none⟩ = some (.slice a q cap) := (HBX.out φ6 L16.out w7 H7.out.inv.fz).cell 0; have t1 : w7.cell? ⟨bp, 1, none⟩ = some (.slice ae m ce) := (HBX.out φ6 L16.out w7 H7.out.inv.fz).cell 1; clear hb7))
                go_roundw
                case rel => exact ⟨j + 1, φ6, by omega, by rw [HN2.out], by go_num, by rw [HN2.out]; exact Lib.hid ⟨L46.out, H8.out⟩⟩
                case measure => (simp [intOf] <;> omega)
              | true =>
                by_cases hc1 : dj < 0
                · have g1 : decide (dj < 0) = true := by simp [hc1]
                  have HN2 : Hid (impF fs es q m rec l ds (ord.take (j + 1)) (fq.1, -1, 0) = (x, (k : Int), far)) := Lib.hid (by rw [HN.out, if_pos ⟨.inl hc1, rfl, rfl⟩])
                  go_wp2_with (first
                    | (go_at_call 32; refine (Rpasses_any q a cap fs m ae ce es w7 φ6 H7.out.inv.fz sp6 se6 ok.out a5 c5 x s6'.out hxl hpa.out).mono ?_; rintro e w8 ⟨rfl, hb8⟩; have H8 := Lib.hid (H7.out.callB hb8); obtain ⟨ar8, cr8, k8, _⟩ := H8.out.ex; have v0 : w8.cell? ⟨b2, 0, none⟩ = some (.slice ar8 q cr8) := k8.cell 0; have v2 : w8.cell? ⟨b2, 2, none⟩ = some (.int .i64 dj) := k8.cell 2; have u0 := k8.frz 0; have u2 := k8.frz 2; clear hb8 k8)
                    | (go_at_call 32; refine (Rpasses_any q a cap fs m ae ce es wr φ6 H6.out.inv.fz sp6 se6 ok.out a4 c4 d S46.out hdn hpd.out).mono ?_; rintro e w7 ⟨rfl, hb7⟩; have H7 := Lib.hid (H6.out.callB hb7); have t0 : w7.cell? ⟨bp, 0, none⟩ = some (.slice a q cap) := (HBX.out φ6 L16.out w7 H7.out.inv.fz).cell 0; have t1 : w7.cell? ⟨bp, 1, none⟩ = some (.slice ae m ce) := (HBX.out φ6 L16.out w7 H7.out.inv.fz).cell 1; clear hb7))
                  go_roundw
                  case rel => exact ⟨j + 1, φ6, by omega, by rw [HN2.out], by go_num, by rw [HN2.out]; exact Lib.hid ⟨L46.out, (H8.out.put s6'.out).put2⟩⟩
                  case measure => (simp [intOf] <;> omega)
                · have g1 : decide (dj < 0) = false := by simp [hc1]
                  by_cases hc2 : far < nj
                  · have g2 : decide (far < nj) = true := by simp [hc2]
                    have HN2 : Hid (impF fs es q m rec l ds (ord.take (j + 1)) (fq.1, -1, 0) = (x, (k : Int), far)) := Lib.hid (by rw [HN.out, if_pos ⟨.inr hc2, rfl, rfl⟩])
                    go_wp2_with (first
                      | (go_at_call 32; refine (Rpasses_any q a cap fs m ae ce es w7 φ6 H7.out.inv.fz sp6 se6 ok.out a5 c5 x s6'.out hxl hpa.out).mono ?_; rintro e w8 ⟨rfl, hb8⟩; have H8 := Lib.hid (H7.out.callB hb8); obtain ⟨ar8, cr8, k8, _⟩ := H8.out.ex; have v0 : w8.cell? ⟨b2, 0, none⟩ = some (.slice ar8 q cr8) := k8.cell 0; have v2 : w8.cell? ⟨b2, 2, none⟩ = some (.int .i64 dj) := k8.cell 2; have u0 := k8.frz 0; have u2 := k8.frz 2; clear hb8 k8)
                      | (go_at_call 32; refine (Rpasses_any q a cap fs m ae ce es wr φ6 H6.out.inv.fz sp6 se6 ok.out a4 c4 d S46.out hdn hpd.out).mono ?_; rintro e w7 ⟨rfl, hb7⟩; have H7 := Lib.hid (H6.out.callB hb7); have t0 : w7.cell? ⟨bp, 0, none⟩ = some (.slice a q cap) := (HBX.out φ6 L16.out w7 H7.out.inv.fz).cell 0; have t1 : w7.cell? ⟨bp, 1, none⟩ = some (.slice ae m ce) := (HBX.out φ6 L16.out w7 H7.out.inv.fz).cell 1; clear hb7))
                    go_roundw
                    case rel => exact ⟨j + 1, φ6, by omega, by rw [HN2.out], by go_num, by rw [HN2.out]; exact Lib.hid ⟨L46.out, (H8.out.put s6'.out).put2⟩⟩
                    case measure => (simp [intOf] <;> omega)
                  · have g2 : decide (far < nj) = false := by simp [hc2]
                    have HN2 : Hid (impF fs es q m rec l ds (ord.take (j + 1)) (fq.1, -1, 0) = (rj, dj, nj)) := Lib.hid (by rw [HN.out, if_neg (fun h => by rcases h.1 with h | h; exact hc1 h; exact hc2 h)])
                    go_wp2_with (first
                      | (go_at_call 32; refine (Rpasses_any q a cap fs m ae ce es w7 φ6 H7.out.inv.fz sp6 se6 ok.out a5 c5 x s6'.out hxl hpa.out).mono ?_; rintro e w8 ⟨rfl, hb8⟩; have H8 := Lib.hid (H7.out.callB hb8); obtain ⟨ar8, cr8, k8, _⟩ := H8.out.ex; have v0 : w8.cell? ⟨b2, 0, none⟩ = some (.slice ar8 q cr8) := k8.cell 0; have v2 : w8.cell? ⟨b2, 2, none⟩ = some (.int .i64 dj) := k8.cell 2; have u0 := k8.frz 0; have u2 := k8.frz 2; clear hb8 k8)
                      | (go_at_call 32; refine (Rpasses_any q a cap fs m ae ce es wr φ6 H6.out.inv.fz sp6 se6 ok.out a4 c4 d S46.out hdn hpd.out).mono ?_; rintro e w7 ⟨rfl, hb7⟩; have H7 := Lib.hid (H6.out.callB hb7); have t0 : w7.cell? ⟨bp, 0, none⟩ = some (.slice a q cap) := (HBX.out φ6 L16.out w7 H7.out.inv.fz).cell 0; have t1 : w7.cell? ⟨bp, 1, none⟩ = some (.slice ae m ce) := (HBX.out φ6 L16.out w7 H7.out.inv.fz).cell 1; clear hb7))
                    go_roundw
                    case rel => exact ⟨j + 1, φ6, by omega, by rw [HN2.out], by go_num, by rw [HN2.out]; exact Lib.hid ⟨L46.out, H8.out⟩⟩
                    case measure => (simp [intOf] <;> omega)
      · obtain rfl : j = nd := by omega
        have HT : Hid (ord.take j = ord) := Lib.hid (by rw [← hol.out, List.take_length])
        rw [HT.out] at hS ⊢
        generalize hSj : impF fs es n m rec l ds ord (fq.1, -1, 0) = sj at *
        obtain ⟨rj, dj, nj⟩ := sj
        dsimp only at hS HQ hIL
        have hne : b2 ≠ b1 := by have := hS.out.2.l2; omega
        have H9 := Lib.hid hS.out.2
        have S59 := Lib.hid (S54.out.mono hS.out.1)
        clear hS hSj
        obtain ⟨arZ, crZ, kZ, sZ⟩ := H9.out.ex
        have y0 : _ = some (Value.slice arZ n crZ) := kZ.cell 0
        have y1 : _ = some (Value.slice af nf cf) := kZ.cell 1
        have y2 : _ = some (Value.int .i64 dj) := kZ.cell 2
        have hSZ := Lib.hid sZ
        clear kZ sZ
        have z0 : _ = some (Value.slice none 0 0) := H9.out.k1.cell 0
        have z1 : _ = some (Value.slice none 0 0) := H9.out.k1.cell 1
        have z2 : _ = some (Value.int .i64 0) := H9.out.k1.cell 2
        have x0 := H9.out.k1.frz 0
        have x1 := H9.out.k1.frz 1
        have x2 := H9.out.k1.frz 2
        have hIZ := Lib.hid (((H9.out.inv.setCell H9.out.l1 H9.out.f1 (off := 0) (Value.slice arZ n crZ)).setCell H9.out.l1 H9.out.f1 (off := 1) (Value.slice af nf cf)).setCell H9.out.l1 H9.out.f1 (off := 2) (Value.int .i64 dj))
        have hBZ := Lib.hid (((H9.out.k1.set 0 (Value.slice arZ n crZ)).set 1 (Value.slice af nf cf)).set 2 (Value.int .i64 dj))
        go_wp2
        have e0 : _ = some (Value.slice arZ n crZ) := hBZ.out.cell 0
        have e1 : _ = some (Value.slice af nf cf) := hBZ.out.cell 1
        have e2 : _ = some (Value.int .i64 dj) := hBZ.out.cell 2
        (try simp only [Exit.inBlock, Exit.then])
        refine bodyPost_ret (v := .tuple #[.agg #[(Value.slice arZ n crZ), (Value.slice af nf cf), (Value.int .i64 dj)], (.bool true)]) (by simp [results, Tryd.results33, go_sem, e0, e1, e2]) rfl ?_
        obtain ⟨rfl, rfl⟩ := Prod.mk.inj HQ.out
        exact ⟨φ5, arZ, n, crZ, af, nf, cf, rfl, hIZ.out, hSZ.out, S59.out, hIL.out, hnf.out⟩
end Go.Proofs.YtkfmadeeobalaaaDoor
