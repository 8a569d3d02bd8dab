/- The walks of fieldsFault and CheckPlan, on the program's side. Conditions: none beyond what the claim form gives. -/
import Derived.Test.YtambgcijceecpaaDoorE2
namespace Go.Proofs.YtambgcijceecpaaDoor
open Go.RowKit
set_option linter.unusedVariables false

/-- The names ahead of number k. -/
def seenL {α : Type} (l : List (ByteArray × α)) (k : Nat) : List ByteArray := ((l.take k).map (·.1)).reverse
theorem seenL_succ {α : Type} (d : ByteArray × α) (l : List (ByteArray × α)) (k n : Nat) (hn : l.length = n) (h : k < n) : seenL l (k + 1) = (l.getD k d).1 :: seenL l k := by
  unfold seenL
  rw [take_snocD d l k n hn h, List.map_append, List.reverse_append]; rfl
noncomputable def fldBad (fs : List Fld) (k : Nat) : Int := if nameB (fs.getD k fld0).1 = false then 5 else if decide ((fs.getD k fld0).1 ∈ seenL fs k) = true then 6 else fieldF (fs.getD k fld0).2.1 (fs.getD k fld0).2.2
def prodK (fs : List Fld) : Nat → Nat
  | 0 => 1
  | k + 1 => prodK fs k * (fs.getD k fld0).2.1.length
noncomputable def fieldsF (fs : List Fld) : Int := if fs.length = 0 then 9 else if 12 < fs.length then 2 else if scan (fldBad fs) fs.length ≠ 0 then scan (fldBad fs) fs.length else if 20000 < prodK fs fs.length then 2 else 0
theorem fieldF_zero {cs : List Int} {wt : Int} (h : fieldF cs wt = 0) : 0 < cs.length ∧ cs.length ≤ 20 ∧ (∀ i, i < cs.length → codeBad cs i = 0) ∧ outB wt 1 1000 = false := by
  unfold fieldF at h
  split at h
  · cases h
  · next h1 =>
    split at h
    · cases h
    · next h2 =>
      split at h
      · next h3 => exact absurd h h3
      · next h3 =>
        split at h
        · cases h
        · next h4 => exact ⟨by omega, by omega, scan_all _ (by simpa using h3), by simpa using h4⟩
theorem fldBad_zero {fs : List Fld} {k : Nat} (h : fldBad fs k = 0) : nameB (fs.getD k fld0).1 = true ∧ (fs.getD k fld0).1 ∉ seenL fs k ∧ fieldF (fs.getD k fld0).2.1 (fs.getD k fld0).2.2 = 0 := by
  unfold fldBad at h
  split at h
  · cases h
  · next h1 =>
    split at h
    · cases h
    · next h2 => exact ⟨by simpa using h1, by simpa using h2, h⟩
theorem prodK_mono {fs : List Fld} {n : Nat} (h : ∀ i, i < n → 0 < (fs.getD i fld0).2.1.length) : ∀ {k m : Nat}, k ≤ m → m ≤ n → prodK fs k ≤ prodK fs m
  | k, 0, hk, _ => by obtain rfl : k = 0 := by omega
                      exact Nat.le_refl _
  | k, m + 1, hk, hm => by
    by_cases e : k = m + 1
    · subst e; exact Nat.le_refl _
    · have h1 := prodK_mono h (k := k) (m := m) (by omega) (by omega)
      have h2 := h m (by omega)
      rw [prodK]
      exact Nat.le_trans h1 (Nat.le_mul_of_pos_right _ h2)
section
variable {fs : List Fld} {n k : Nat} (hn : Hid (fs.length = n)) (h0 : 0 < n) (hl : n ≤ 12)
include hn h0 hl
theorem fieldsF_at (hk : k < n) (h : Hid (∀ i, i < k → fldBad fs i = 0)) {c : Int} (hc : fldBad fs k = c) (hc0 : c ≠ 0) : fieldsF fs = c := by
  have hs : scan (fldBad fs) n = c := by rw [scan_stop h.out hk (by rw [hc]; exact hc0), hc]
  rw [fieldsF, hn.out, if_neg (by omega), if_neg (by omega), hs, if_pos hc0]
theorem fieldsF_mix (h : Hid (∀ i, i < n → fldBad fs i = 0)) : fieldsF fs = if 20000 < prodK fs n then 2 else 0 := by
  rw [fieldsF, hn.out, if_neg (by omega), if_neg (by omega), scan_zero _ _ h.out, if_neg (by simp)]
end
theorem flds_pos {fs : List Fld} {n : Nat} (h : Hid (∀ i, i < n → fldBad fs i = 0)) : ∀ i, i < n → 0 < (fs.getD i fld0).2.1.length ∧ (fs.getD i fld0).2.1.length ≤ 20 := fun i hi => by
  have := fieldF_zero (fldBad_zero (h.out i hi)).2.2
  exact ⟨this.1, this.2.1⟩
structure FsSt (w : World) (r : Nat) (L : List ByteArray) (wr : World) : Prop where
  bel : Below w.heap.size w wr
  map : SeenW wr r L
  lo : w.heap.size ≤ r
theorem FsSt.callB {w wr w' : World} {r : Nat} {L : List ByteArray} (h : FsSt w r L wr) (hb : Below wr.heap.size wr w') : FsSt w r L w' := ⟨h.bel.trans (hb.mono h.bel.size), h.map.callB hb, h.lo⟩
theorem FsSt.alloc {w wr : World} {r : Nat} {L : List ByteArray} (h : FsSt w r L wr) (o : Obj) : FsSt w r L (wr.alloc o) := h.callB ((Below.refl _ _).alloc (Nat.le_refl _) o)
theorem Below_grown {w0 w w' : World} {r : Nat} (h : Below w0.heap.size w0 w) (hg : w.grownBy w' (some r)) (hr : w0.heap.size ≤ r) : Below w0.heap.size w0 w' :=
  ⟨hg.os.trans h.os, hg.tape.trans h.tape, hg.output.trans h.output, Nat.le_trans h.size hg.size, fun k hk => (hg.block k (Nat.lt_of_lt_of_le hk h.size) (fun e => by cases e; omega)).trans (h.block k hk)⟩
theorem far {w w' : World} {b o : Nat} (h : w'.heap[b]? = w.heap[b]?) : w'.cell? ⟨b, o, none⟩ = w.cell? ⟨b, o, none⟩ ∧ w'.frozen? ⟨b, o, none⟩ = w.frozen? ⟨b, o, none⟩ := by
  unfold World.cell? World.frozen?
  dsimp only
  rw [h]; exact ⟨rfl, rfl⟩
theorem FsSt.put {w wr : World} {r : Nat} {L : List ByteArray} (h : FsSt w r L wr) (k : ByteArray) : ∃ o, (Instr.mapUpdate 101 (.map (some r)) (.string k) (.bool true)).run Tryd.prog wr = .ok () (setMap wr r o) ∧ FsSt w r (k :: L) (setMap wr r o) ∧ wr.grownBy (setMap wr r o) (some r) := by
  obtain ⟨o, h1, h2⟩ := h.map.put k
  exact ⟨o, h1, ⟨Below_grown h.bel (setMap_grown _ r o) h.lo, h2, h.lo⟩, setMap_grown _ r o⟩
def FldG (x : Fld) : Prop := x.1.size ≤ reachBytes

set_option maxRecDepth 100000 in
set_option maxHeartbeats 2000000 in
theorem fieldsFault_any (n : Nat) (a : Option Addr) (cap : Nat) (fs : List Fld) (w : World) (φ : Phi) (hφ : Fz φ w) (s : SlV φ a cap fs) (hn : Hid (fs.length = n)) (hm : n ≤ 9223372036854775807) (hg : Hid (∀ x ∈ fs, FldG x)) :
    Calls Tryd.prog 59 #[.slice a n cap] w (IntB (fieldsF fs) w) := by
  by_cases z : n = 0
  · have Z := Lib.hid z
    have zb : ((n : Int) == 0) = true := by simp [z]
    clear z
    go_enter Tryd.func59, Tryd.ntmps59
    go_wp2
    go_ret
    exact ⟨ret_int (by rw [fieldsF, hn.out, if_pos Z.out]), Below.refl _ _⟩
  have zb : ((n : Int) == 0) = false := by simp; omega
  by_cases hl : 12 < n
  · go_enter Tryd.func59, Tryd.ntmps59
    go_wp2
    go_ret
    exact ⟨ret_int (by rw [fieldsF, hn.out, if_neg z, if_pos hl]), Below.refl _ _⟩
  have h0 : 0 < n := by omega
  have z := Lib.hid z
  have hmm := @run_makeMap Tryd.prog
  have hSt : Hid (FsSt w w.heap.size (seenL fs 0) (w.alloc (.map #[] 0))) := Lib.hid ⟨(Below.refl _ _).alloc (Nat.le_refl _) _, SeenW.new w, Nat.le_refl _⟩
  go_enter Tryd.func59, Tryd.ntmps59
  go_wp2
  clear zb hmm
  generalize w.alloc (.map #[] 0) = wm at *
  generalize hr0 : w.heap.size = r at *
  replace hr0 := Lib.hid hr0
  go_loopw [19] (fun i wr => ∃ k : Nat, k ≤ n ∧ i = .int .i64 k ∧ Hid (∀ i, i < k → fldBad fs i = 0) ∧ Hid (FsSt w r (seenL fs k) wr)) (fun i _ => n - (intOf i).toNat)
  case atStart => exact ⟨0, Nat.zero_le _, rfl, none_yet _, hSt⟩
  case round =>
    clear hSt
    obtain ⟨k, hk, rfl, hok, hS⟩ := hrel
    by_cases hlt : k < n
    · obtain ⟨b, off, rfl, f⟩ := s.fldD hn hlt
      obtain ⟨ac, cc, sk, f⟩ := f k hlt
      obtain ⟨hb, c1, c2, c3⟩ := f wr (hφ.below hS.out.bel)
      have hbad : Hid (fldBad fs k = _) := Lib.hid (fldBad.eq_1 fs k)
      have hsl := Lib.hid (seenL_succ fld0 fs k n hn.out hlt)
      have hgk := Lib.hid (hg.out _ (by rw [getD_elem0 fld0 _ _ (by rw [hn.out]; exact hlt)]; exact List.getElem_mem _) : FldG (fs.getD k fld0))
      clear f
      generalize hX : fs.getD k fld0 = X at *
      obtain ⟨nm, cs, wt⟩ := X
      replace hX := Lib.hid hX
      dsimp only at c1 c2 c3 sk
      replace hbad : Hid (fldBad fs k = if nameB nm = false then 5 else if decide (nm ∈ seenL fs k) = true then 6 else fieldF cs wt) := hbad
      have hcap := sk.capn
      have hcm := sk.capm
      have hgn : Hid (nm.size ≤ reachBytes) := hgk
      obtain ⟨nc, hnc⟩ : ∃ nc, Hid (cs.length = nc) := ⟨_, Lib.hid rfl⟩
      rw [hnc.out] at c2 hcap
      have hS1 := Lib.hid (hS.out.alloc (.cells #[.string nm, .slice ac nc cc, .int .i64 wt] 87))
      have HF := Lib.hid (hφ.below hS1.out.bel)
      have b0 : (wr.alloc (.cells #[.string nm, .slice ac nc cc, .int .i64 wt] 87)).cell? ⟨wr.heap.size, 0, none⟩ = some (.string nm) := box_at 0
      have b1 : (wr.alloc (.cells #[.string nm, .slice ac nc cc, .int .i64 wt] 87)).cell? ⟨wr.heap.size, 1, none⟩ = some (.slice ac nc cc) := box_at 1
      have b2 : (wr.alloc (.cells #[.string nm, .slice ac nc cc, .int .i64 wt] 87)).cell? ⟨wr.heap.size, 2, none⟩ = some (.int .i64 wt) := box_at 2
      have hrlt := hS.out.map.lt
      obtain ⟨o1, ho1⟩ : ∃ o, Hid (nameB nm = o) := ⟨_, Lib.hid rfl⟩
      obtain ⟨o2, ho2⟩ : ∃ o, Hid (decide (nm ∈ seenL fs k) = o) := ⟨_, Lib.hid rfl⟩
      cases o1
      case false =>
        go_wp2_with fail
        refine (IsName_any _ _ hgn.out ho1.out).mono ?_
        rintro e w' ⟨rfl, rfl⟩
        go_wp2
        go_ret
        exact ⟨ret_int (fieldsF_at hn h0 (by omega) hlt hok (by rw [hbad.out, if_pos ho1.out]) (by decide)).symm, hS1.out.bel⟩
      have hlk := hS1.out.map.look nm ho2.out
      cases o2
      case true =>
        go_wp2_with fail
        refine (IsName_any _ _ hgn.out ho1.out).mono ?_
        rintro e w' ⟨rfl, rfl⟩
        go_wp2
        go_ret
        exact ⟨ret_int (fieldsF_at hn h0 (by omega) hlt hok (by rw [hbad.out, if_neg (by rw [ho1.out]; simp), if_pos ho2.out]) (by decide)).symm, hS1.out.bel⟩
      obtain ⟨o, hp, hS2, hgr⟩ := hS1.out.put nm
      have HS2 := Lib.hid hS2
      have hne : wr.heap.size ≠ r := by omega
      have q := fun (o' : Nat) => far (o := o') (hgr.block wr.heap.size (by simp) (by simpa using hne))
      have d0 : (setMap (wr.alloc (.cells #[.string nm, .slice ac nc cc, .int .i64 wt] 87)) r o).cell? ⟨wr.heap.size, 0, none⟩ = some (.string nm) := (q 0).1.trans b0
      have d1 : (setMap (wr.alloc (.cells #[.string nm, .slice ac nc cc, .int .i64 wt] 87)) r o).cell? ⟨wr.heap.size, 1, none⟩ = some (.slice ac nc cc) := (q 1).1.trans b1
      have d2 : (setMap (wr.alloc (.cells #[.string nm, .slice ac nc cc, .int .i64 wt] 87)) r o).cell? ⟨wr.heap.size, 2, none⟩ = some (.int .i64 wt) := (q 2).1.trans b2
      clear hS2 hgr q
      have hff : Hid (fldBad fs k = fieldF cs wt) := Lib.hid (by rw [hbad.out, if_neg (by rw [ho1.out]; simp), if_neg (by rw [ho2.out]; simp)])
      unfold maxLen at hcm
      go_wp2_with fail
      refine (IsName_any _ _ hgn.out ho1.out).mono ?_
      rintro e w' ⟨rfl, rfl⟩
      go_wp2_with fail
      refine (fieldFault_any nm nc ac cc cs wt _ φ (hφ.below HS2.out.bel) sk hnc (by omega)).mono ?_
      rintro e w3 ⟨rfl, hb3⟩
      have hS3 := Lib.hid (HS2.out.callB hb3)
      rw [← hsl.out] at hS3
      clear hlk hp d0 d1 d2 b0 b1 b2 hb3 HS2 hS1 HF
      obtain ⟨q, hq⟩ : ∃ q, Hid (fieldF cs wt = q) := ⟨_, Lib.hid rfl⟩
      rw [hq.out]
      by_cases hq0 : q = 0
      · have hgg : ((q : Int) != 0) = false := by simp [hq0]
        have HQ := Lib.hid hq0
        clear hq0
        go_wp2
        go_roundw
        case rel => exact ⟨k + 1, by omega, by go_num, next_ok hok (by rw [hff.out, hq.out, HQ.out]), hS3⟩
        case measure => simp [intOf]; omega
      · have hgg : ((q : Int) != 0) = true := by simp [hq0]
        have HQ := Lib.hid hq0
        clear hq0
        go_wp2
        go_ret
        exact ⟨ret_int (fieldsF_at hn h0 (by omega) hlt hok (by rw [hff.out, hq.out]) HQ.out).symm, hS3.out.bel⟩
    · obtain rfl : k = n := by omega
      rename Nat => n
      clear hlt hk
      have hpos := Lib.hid (flds_pos hok)
      have hmix := Lib.hid (fieldsF_mix hn h0 (by omega) hok)
      have HB := Lib.hid hS.out.bel
      clear hok hS
      go_wp2
      go_loopw [7, 42] (fun mx i wr => ∃ k : Nat, k ≤ n ∧ i = .int .i64 k ∧ mx = .int .i64 (prodK fs k : Int) ∧ prodK fs k ≤ 20000 ∧ Hid (Below w.heap.size w wr)) (fun _ i _ => n - (intOf i).toNat)
      case atStart => exact ⟨0, Nat.zero_le _, rfl, rfl, by simp [prodK], HB⟩
      case round =>
        clear HB
        obtain ⟨k, hk, rfl, rfl, hpk, hB⟩ := hrel
        by_cases hlt : k < n
        · obtain ⟨b, off, rfl, f⟩ := s.fldD hn hlt
          obtain ⟨ac, cc, sk, f⟩ := f k hlt
          obtain ⟨hb, c1, c2, c3⟩ := f wr (hφ.below hB.out)
          have hps := Lib.hid (prodK.eq_2 fs k)
          obtain ⟨l1, l2⟩ := hpos.out k hlt
          have hle := Lib.hid (prodK_mono (fun i hi => (hpos.out i hi).1) (k := k + 1) (m := n) (by omega) (Nat.le_refl _))
          clear f
          generalize hX : fs.getD k fld0 = X at *
          obtain ⟨nm, cs, wt⟩ := X
          replace hX := Lib.hid hX
          dsimp only at c1 c2 c3 sk l1 l2
          obtain ⟨nc, hnc⟩ : ∃ nc, Hid (cs.length = nc) := ⟨_, Lib.hid rfl⟩
          replace hps : Hid (prodK fs (k + 1) = prodK fs k * nc) := Lib.hid (by rw [hps.out, ← hnc.out])
          rw [hnc.out] at c2 l1 l2
          have hB1 := Lib.hid (hB.out.alloc hB.out.size (.cells #[.string nm, .slice ac nc cc, .int .i64 wt] 87))
          generalize hpq : prodK fs k = pk at *
          replace hpq := Lib.hid hpq
          have hpb : pk * nc ≤ 400000 := Nat.le_trans (Nat.mul_le_mul hpk l2) (by decide)
          have hpc : ((pk * nc : Nat) : Int) = (pk : Int) * nc := by simp
          have hw0 : IntKind.i64.wrap ((pk : Int) * nc) = ((pk * nc : Nat) : Int) := by rw [hpc]; exact IntWalk.i64_in _ (by rw [← hpc]; omega)
          generalize hmq : pk * nc = m at *
          replace hmq := Lib.hid hmq
          clear hpc
          have hw1 : IntKind.i64.wrap ((pk : Int) * nc) = (m : Int) := hw0
          clear hw0
          by_cases hbig : 20000 < m
          · have HBIG := Lib.hid hbig
            go_wp2
            go_ret
            exact ⟨ret_int (by rw [hmix.out, if_pos (by have := hle.out; have := hps.out; have := HBIG.out; omega)]), hB1.out⟩
          · have hbig2 : m ≤ 20000 := by omega
            go_wp2
            go_roundw
            case rel => exact ⟨k + 1, by omega, by go_num, by rw [hps.out], by rw [hps.out]; exact hbig2, hB1⟩
            case measure => simp [intOf]; omega
        · obtain rfl : k = n := by omega
          go_wp2
          go_ret
          exact ⟨ret_int (by rw [hmix.out, if_neg (by omega)]), hB.out⟩
end Go.Proofs.YtambgcijceecpaaDoor
