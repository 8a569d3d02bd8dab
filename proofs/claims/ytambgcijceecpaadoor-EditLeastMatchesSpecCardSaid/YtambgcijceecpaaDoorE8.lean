/- The walks of has, fails, valid, passes, recordFault, with. Conditions: none beyond what the claim form gives. -/
import Derived.Test.YtambgcijceecpaaDoorE7
namespace Go.Proofs.YtambgcijceecpaaDoor
open Go.RowKit
set_option linter.unusedVariables false

/-- Rules that are right, in the frozen heap. -/
structure RulV (φ : Phi) (br : Nat) (fs : List Fld) (es : List Edt) (n m : Nat) (a : Option Addr) (cap : Nat) (ae : Option Addr) (ce : Nat) (ab : Option Addr) (cb : Nat) : Prop where
  bk : φ br = some (.cells #[.slice a n cap, .slice ae m ce, .slice ab m cb] 69 (0, 0))
  fv : SlV φ a cap fs
  ev : SlV φ ae ce es
  bv : SlV φ ab cb (boxes fs es m)
  ok : PlOk fs es n m
theorem RulF.open_ {φ : Phi} {br : Nat} {fs : List Fld} {es : List Edt} (h : RulF φ br fs es) (h0 : planF fs es = 0) {n m : Nat} (hn : fs.length = n) (hm : es.length = m) : ∃ a cap ae ce ab cb, RulV φ br fs es n m a cap ae ce ab cb := by
  obtain ⟨a, n', cap, ae, m', ce, ab, cb, h1, h2, h3, h4, h5, h6⟩ := h
  obtain rfl : n' = n := by omega
  obtain rfl : m' = m := by omega
  have := planF_zero h0
  rw [h3, h5] at this
  exact ⟨a, cap, ae, ce, ab, cb, h1, h2, h4, h6, this⟩
section
variable {φ φ' : Phi} {br : Nat} {fs : List Fld} {es : List Edt} {n m : Nat} {a : Option Addr} {cap : Nat} {ae : Option Addr} {ce : Nat} {ab : Option Addr} {cb : Nat}
theorem RulV.mono (h : RulV φ br fs es n m a cap ae ce ab cb) (hl : φ.le φ') : RulV φ' br fs es n m a cap ae ce ab cb := ⟨hl _ _ h.bk, h.fv.mono hl, h.ev.mono hl, h.bv.mono hl, h.ok⟩
theorem RulV.blk (h : RulV φ br fs es n m a cap ae ce ab cb) {w : World} (hφ : Fz φ w) : Blk w br #[.slice a n cap, .slice ae m ce, .slice ab m cb] 69 := hφ _ _ h.bk
end
theorem bitK_test {cd st : List Int} (k : Nat) : ∀ q, (bitK cd st q).testBit k = decide (∃ i, i < q ∧ cd.idxOf (st.getD i 0) = k)
  | 0 => by simp [bitK]
  | q + 1 => by
    rw [bitK, Nat.testBit_or, bitK_test k q, Nat.testBit_two_pow, Bool.eq_iff_iff]
    simp only [Bool.or_eq_true, decide_eq_true_eq]
    constructor
    · rintro (⟨i, h1, h2⟩ | h)
      · exact ⟨i, by omega, h2⟩
      · exact ⟨q, by omega, h⟩
    · rintro ⟨i, h1, h2⟩
      by_cases e : i = q
      · subst e; exact .inr h2
      · exact .inl ⟨i, by omega, h2⟩
theorem idxOf_eq {cd : List Int} {x y : Int} (hx : x ∈ cd) (hy : y ∈ cd) (h : cd.idxOf x = cd.idxOf y) : x = y := by
  have e1 := List.getElem_idxOf (List.idxOf_lt_length_of_mem hx)
  have e2 := List.getElem_idxOf (List.idxOf_lt_length_of_mem hy)
  rw [← e1, ← e2]
  simp only [h]
theorem bit_in {cd st : List Int} (hs : ∀ i, i < st.length → st.getD i 0 ∈ cd) {x : Int} (hx : x ∈ cd) : bitK cd st st.length / 2 ^ cd.idxOf x % 2 = if x ∈ st then 1 else 0 := by
  have h := bitK_test (cd := cd) (st := st) (cd.idxOf x) st.length
  rw [Nat.testBit_eq_decide_div_mod_eq] at h
  have e : (∃ i, i < st.length ∧ cd.idxOf (st.getD i 0) = cd.idxOf x) ↔ x ∈ st := by
    constructor
    · rintro ⟨i, h1, h2⟩
      rw [← idxOf_eq (hs i h1) hx h2, getD_elem0 _ _ _ h1]
      exact List.getElem_mem _
    · intro hm
      obtain ⟨i, hi, he⟩ := List.getElem_of_mem hm
      exact ⟨i, hi, by rw [getD_elem0 _ _ _ hi, he]⟩
  have h3 : bitK cd st st.length / 2 ^ cd.idxOf x % 2 < 2 := Nat.mod_lt _ (by decide)
  by_cases hm : x ∈ st
  · rw [if_pos hm]
    have := e.2 hm
    rw [decide_eq_true this] at h
    simpa using h
  · rw [if_neg hm]
    rw [decide_eq_false (fun k => hm (e.1 k))] at h
    have := of_decide_eq_false h
    omega
theorem bits_test {v k : Nat} (hv : v < 4294967296) (hk : k < 32) : bits .and .u32 ((v : Int) / 2 ^ k) 1 = ((v / 2 ^ k % 2 : Nat) : Int) := by
  have e : ((v : Int) / 2 ^ k) = ((v / 2 ^ k : Nat) : Int) := by simp
  rw [e]
  exact bits_and1 (Nat.lt_of_le_of_lt (Nat.div_le_self _ _) hv)
/-- A record has a code of each set. -/
def hitB (ss : List (List Int)) (rec : List Int) (n : Nat) : Bool := (List.range n).all (fun i => decide (rec.getD i 0 ∈ ss.getD i []))
theorem hitB_true {ss : List (List Int)} {rec : List Int} {n : Nat} (h : ∀ i, i < n → rec.getD i 0 ∈ ss.getD i []) : hitB ss rec n = true := by
  unfold hitB; rw [List.all_eq_true]; intro i hi; exact decide_eq_true (h i (List.mem_range.1 hi))
theorem hitB_false {ss : List (List Int)} {rec : List Int} {n i : Nat} (hi : i < n) (h : ¬ rec.getD i 0 ∈ ss.getD i []) : hitB ss rec n = false := by
  unfold hitB; rw [List.all_eq_false]; exact ⟨i, List.mem_range.2 hi, by simpa using h⟩
theorem boxK_get {fs : List Fld} {ss : List (List Int)} {n k : Nat} (h : k < n) : (boxK fs ss n).getD k u320 = ⟨bitK (fs.getD k fld0).2.1 (ss.getD k []) (ss.getD k []).length⟩ := by
  rw [getD_elem0 _ _ _ (by rw [boxK_len]; exact h)]; unfold boxK; simp
theorem boxes_get {fs : List Fld} {es : List Edt} {m k : Nat} (h : k < m) : (boxes fs es m).getD k [] = boxK fs (es.getD k edt0).2 (es.getD k edt0).2.length := by
  rw [getD_elem0 _ _ _ (by rw [boxes_len]; exact h)]; unfold boxes; simp
set_option maxHeartbeats 1000000 in
theorem has_any
  {φ : Phi} {br : Nat} {fs : List Fld} {es : List Edt} {n m : Nat} {a : Option Addr} {cap : Nat} {ae : Option Addr} {ce : Nat} {ab : Option Addr} {cb : Nat} (R : RulV φ br fs es n m a cap ae ce ab cb)
    (w : World) (hφ : Fz φ w) (j : Nat) (hj : j < m) (ss : List (List Int)) (hss : Hid ((es.getD j edt0).2 = ss)) (a1 : Option Addr) (c1 : Nat) (sb : SlV φ a1 c1 (boxK fs ss n)) (a2 : Option Addr) (c2 : Nat) (rec : List Int) (sr : SlV φ a2 c2 rec) (hrl : Hid (rec.length = n)) {b : Bool} (hb : Hid (hitB ss rec n = b)) :
    Calls Tryd.prog 65 #[.pointer (some ⟨br, 0, none⟩), .slice a1 n c1, .slice a2 n c2] w (fun e w' => e = .returned (.bool b) ∧ w = w') := by
  have r0 : w.cell? ⟨br, 0, none⟩ = some (.slice a n cap) := (R.blk hφ).cell 0
  have hfl := Lib.hid R.ok.len
  have hset := Lib.hid (R.ok.edt j hj)
  rw [hss.out] at hset
  have hn12 := R.ok.pos
  have hcd20 := Lib.hid (fun i (hi : i < n) => (fieldF_zero (fldBad_zero (R.ok.fld i hi)).2.2).2.1)
  have hbl := Lib.hid (boxK_len fs ss n)
  go_enter Tryd.func65, Tryd.ntmps65
  go_wp2
  go_loop [12] (fun i => ∃ k : Nat, k ≤ n ∧ i = .int .i64 k ∧ Hid (∀ i, i < k → rec.getD i 0 ∈ ss.getD i [])) (fun i => n - (intOf i).toNat)
  case atStart => exact ⟨0, Nat.zero_le _, rfl, Lib.hid (fun i hi => by omega)⟩
  case round =>
    obtain ⟨k, hk, rfl, hok⟩ := hrel
    by_cases hlt : k < n
    · obtain ⟨b1, o1, rfl, f1⟩ := sr.intsD hrl hlt
      have d1 := (f1 k hlt w hφ).2
      obtain ⟨b2, o2, ha, f2⟩ := R.fv.fldD hfl hlt
      obtain ⟨a3, c3, sf, f2⟩ := f2 k hlt
      have d2 := (f2 w hφ).2.2.1
      obtain ⟨b3, o3, rfl, f3⟩ := sb.u32D hbl hlt
      have d3 := (f3 k hlt w hφ).2
      rw [boxK_get hlt] at d3
      subst ha
      have hs0 := Lib.hid (setF_zero (hset.out.2 k hlt)).2
      have hcl : Hid ((fs.getD k fld0).2.1.length ≤ 20) := Lib.hid (hcd20.out k hlt)
      have HF : Hid (¬ rec.getD k 0 ∈ ss.getD k [] → b = false) := Lib.hid (fun h => hb.out.symm.trans (hitB_false hlt h))
      have HN : Hid (rec.getD k 0 ∈ ss.getD k [] → ∀ i, i < k + 1 → rec.getD i 0 ∈ ss.getD i []) := Lib.hid (fun h i hi => by
        by_cases e : i = k
        · subst e; exact h
        · exact hok.out i (by omega))
      clear f1 f2 f3
      generalize rec.getD k 0 = x at *
      generalize ss.getD k [] = st at *
      generalize (fs.getD k fld0).2.1 = cd at *
      obtain ⟨n2, hn2⟩ : ∃ n2, Hid (cd.length = n2) := ⟨_, Lib.hid rfl⟩
      rw [hn2.out] at d2
      have e3 := sf.capn
      have e4 := sf.capm
      rw [hn2.out] at e3
      unfold maxLen at e4
      by_cases hm : x ∈ cd
      case neg =>
        have hix : Hid (idI cd x = -1) := Lib.hid (by rw [idI, if_neg hm])
        have hr : Hid (b = false) := Lib.hid (HF.out (fun h => by
          obtain ⟨i, hi, he⟩ := List.getElem_of_mem h
          have := hs0.out i hi
          rw [getD_elem0 _ _ _ hi, he] at this
          exact hm this))
        clear hm
        go_wp2_with fail
        refine (Index_ex n2 a3 c3 cd x w φ hφ sf hn2 (by omega) hix.out).mono ?_
        rintro e w' ⟨rfl, rfl⟩
        go_wp2
        go_ret
        exact ⟨ret_bool hr.out.symm, rfl⟩
      case pos =>
        have hix : Hid (idI cd x = ((cd.idxOf x : Nat) : Int)) := Lib.hid (by rw [idI, if_pos hm])
        have hi20 : cd.idxOf x < 20 := Nat.lt_of_lt_of_le (List.idxOf_lt_length_of_mem hm) hcl.out
        have hlt2 : Hid (bitK cd st st.length < 1048576) := Lib.hid (bitK_lt hcl.out hs0.out)
        have hbt := bits_test (v := bitK cd st st.length) (k := cd.idxOf x) (by have := hlt2.out; omega) (by omega)
        rw [bit_in hs0.out hm] at hbt
        generalize cd.idxOf x = ix at *
        generalize bitK cd st st.length = v at *
        by_cases hx : x ∈ st
        · rw [if_pos hx] at hbt
          have hbb : (bits .and .u32 ((v : Int) / 2 ^ ix) 1 == 0) = false := by rw [hbt]; rfl
          have HX := Lib.hid hx
          clear hbt hx hm
          go_wp2_with fail
          refine (Index_ex n2 a3 c3 cd x w φ hφ sf hn2 (by omega) hix.out).mono ?_
          rintro e w' ⟨rfl, rfl⟩
          go_wp2
          go_round
          case rel => exact ⟨k + 1, by omega, by go_num, Lib.hid (HN.out HX.out)⟩
          case measure => simp [intOf]; omega
        · rw [if_neg hx] at hbt
          have hbb : (bits .and .u32 ((v : Int) / 2 ^ ix) 1 == 0) = true := by rw [hbt]; rfl
          have HX := Lib.hid hx
          clear hbt hx hm
          go_wp2_with fail
          refine (Index_ex n2 a3 c3 cd x w φ hφ sf hn2 (by omega) hix.out).mono ?_
          rintro e w' ⟨rfl, rfl⟩
          go_wp2
          go_ret
          exact ⟨ret_bool (HF.out HX.out).symm, rfl⟩
    · obtain rfl : k = n := by omega
      go_wp2
      go_ret
      exact ⟨ret_bool ((hitB_true hok.out).symm.trans hb.out), rfl⟩
/-- The numbers of the edits that a record fails. -/
def failL (es : List Edt) (rec : List Int) (n : Nat) (k : Nat) : List Int := ((List.range k).filter (fun j : Nat => hitB (es.getD j edt0).2 rec n)).map (fun j : Nat => (j : Int))
theorem failL_t {es : List Edt} {rec : List Int} {n k : Nat} (h : hitB (es.getD k edt0).2 rec n = true) : failL es rec n (k + 1) = failL es rec n k ++ [(k : Int)] := by
  have e : List.filter (fun j : Nat => hitB (es.getD j edt0).2 rec n) [k] = [k] := by rw [List.filter_cons_of_pos (by exact h)]; rfl
  unfold failL; rw [List.range_succ, List.filter_append, List.map_append, e]; rfl
theorem failL_f {es : List Edt} {rec : List Int} {n k : Nat} (h : hitB (es.getD k edt0).2 rec n = false) : failL es rec n (k + 1) = failL es rec n k := by
  have e : List.filter (fun j : Nat => hitB (es.getD j edt0).2 rec n) [k] = [] := by rw [List.filter_cons_of_neg (by rw [h]; simp)]; rfl
  unfold failL; rw [List.range_succ, List.filter_append, List.map_append, e]; simp
theorem failL_len (es : List Edt) (rec : List Int) (n k : Nat) : (failL es rec n k).length ≤ k := by
  unfold failL; rw [List.length_map]; exact Nat.le_trans (List.length_filter_le _ _) (by simp)
def OwnPost (xs : List Int) (φ : Phi) (w : World) (e : Ending) (w' : World) : Prop :=
  ∃ a cap, e = .returned (.slice a xs.length cap) ∧ Inv w.heap.size w φ φ w' ∧ Own w.heap.size φ w' 3 a cap xs
set_option maxHeartbeats 1000000 in
theorem fails_any
  {φ : Phi} {br : Nat} {fs : List Fld} {es : List Edt} {n m : Nat} {a : Option Addr} {cap : Nat} {ae : Option Addr} {ce : Nat} {ab : Option Addr} {cb : Nat} (R : RulV φ br fs es n m a cap ae ce ab cb)
    (w : World) (hφ : Fz φ w) (a2 : Option Addr) (c2 : Nat) (rec : List Int) (sr : SlV φ a2 c2 rec) (hrl : Hid (rec.length = n)) :
    Calls Tryd.prog 31 #[.pointer (some ⟨br, 0, none⟩), .slice a2 n c2] w (OwnPost (failL es rec n m) φ w) := by
  have r2 : w.cell? ⟨br, 2, none⟩ = some (.slice ab m cb) := (R.blk hφ).cell 2
  have hm60 := R.ok.cnt
  have hbl := Lib.hid (boxes_len fs es m)
  have hed := Lib.hid R.ok.edt
  have hSt : Hid (Inv w.heap.size w φ φ w ∧ Own w.heap.size φ w 3 none 0 (failL es rec n 0)) := Lib.hid ⟨Inv.start hφ, Own.nil _ _ _ _⟩
  go_enter Tryd.func31, Tryd.ntmps31
  go_wp2
  clear r2
  go_loopw [5, 13] (fun sl i wr => ∃ (k : Nat) (ao : Option Addr) (co : Nat), k ≤ m ∧ sl = .slice ao (failL es rec n k).length co ∧ i = .int .i64 k ∧ Hid (Inv w.heap.size w φ φ wr ∧ Own w.heap.size φ wr 3 ao co (failL es rec n k))) (fun _ i _ => m - (intOf i).toNat)
  case atStart => exact ⟨0, none, 0, Nat.zero_le _, rfl, rfl, hSt⟩
  case round =>
    clear hSt
    obtain ⟨k, ao, co, hk, rfl, rfl, hS⟩ := hrel
    by_cases hlt : k < m
    · obtain ⟨b1, o1, ha, f1⟩ := R.bv.lists hbl hlt
      obtain ⟨a3, c3, s3, f1⟩ := f1 k hlt
      have d1 := (f1 wr hS.out.1.fz).2
      have hsn := hed.out k hlt
      rw [boxes_get hlt] at d1 s3
      rw [boxK_len] at d1
      rw [hsn.1] at d1 s3
      subst ha
      have hl := Lib.hid (failL_len es rec n k)
      obtain ⟨o, ho⟩ : ∃ o, Hid (hitB (es.getD k edt0).2 rec n = o) := ⟨_, Lib.hid rfl⟩
      clear f1 hsn
      cases o
      case true =>
        have hin := hS.out.1
        have hon := hS.out.2
        go_wp2_with (first
          | (go_at_call 65; refine (has_any R wr hin.fz k hlt _ (Lib.hid rfl) a3 c3 s3 a2 c2 rec sr hrl ho).mono ?_; rintro e w' ⟨rfl, rfl⟩)
          | (at_builtin; refine wpList_app1 (α := Int) rfl _ _ 26 rfl slI hin ao co _ hon _ _ (k : Int) rfl rfl 1 rfl (by have := hl.out; omega) ?_; intro a4 c4 w4 hi4 ho4 hg4))
        go_roundw
        case rel => exact ⟨k + 1, a4, c4, by omega, by rw [failL_t ho.out]; simp, by go_num, by rw [failL_t ho.out]; exact Lib.hid ⟨hi4, ho4⟩⟩
        case measure => simp [intOf]; omega
      case false =>
        go_wp2_with (go_at_call 65; refine (has_any R wr hS.out.1.fz k hlt _ (Lib.hid rfl) a3 c3 s3 a2 c2 rec sr hrl ho).mono ?_; rintro e w' ⟨rfl, rfl⟩)
        go_roundw
        case rel => exact ⟨k + 1, ao, co, by omega, by rw [failL_f ho.out], by go_num, by rw [failL_f ho.out]; exact hS⟩
        case measure => simp [intOf]; omega
    · obtain rfl : k = m := by omega
      go_wp2
      go_ret
      exact ⟨ao, co, rfl, hS.out.1, hS.out.2⟩
/-- All values are valid. -/
def validB (fs : List Fld) (rec : List Int) (n : Nat) : Bool := (List.range n).all (fun i => decide (rec.getD i 0 ∈ (fs.getD i fld0).2.1))
theorem validB_true {fs : List Fld} {rec : List Int} {n : Nat} (h : ∀ i, i < n → rec.getD i 0 ∈ (fs.getD i fld0).2.1) : validB fs rec n = true := by
  unfold validB; rw [List.all_eq_true]; intro i hi; exact decide_eq_true (h i (List.mem_range.1 hi))
theorem validB_false {fs : List Fld} {rec : List Int} {n i : Nat} (hi : i < n) (h : ¬ rec.getD i 0 ∈ (fs.getD i fld0).2.1) : validB fs rec n = false := by
  unfold validB; rw [List.all_eq_false]; exact ⟨i, List.mem_range.2 hi, by simpa using h⟩
set_option maxHeartbeats 1000000 in
theorem valid_any
  {φ : Phi} {br : Nat} {fs : List Fld} {es : List Edt} {n m : Nat} {a : Option Addr} {cap : Nat} {ae : Option Addr} {ce : Nat} {ab : Option Addr} {cb : Nat} (R : RulV φ br fs es n m a cap ae ce ab cb)
    (w : World) (hφ : Fz φ w) (a2 : Option Addr) (c2 : Nat) (rec : List Int) (sr : SlV φ a2 c2 rec) (hrl : Hid (rec.length = n)) {b : Bool} (hb : Hid (validB fs rec n = b)) :
    Calls Tryd.prog 67 #[.pointer (some ⟨br, 0, none⟩), .slice a2 n c2] w (fun e w' => e = .returned (.bool b) ∧ w = w') := by
  have r0 : w.cell? ⟨br, 0, none⟩ = some (.slice a n cap) := (R.blk hφ).cell 0
  have hfl := Lib.hid R.ok.len
  have hn12 := R.ok.pos
  go_enter Tryd.func67, Tryd.ntmps67
  go_wp2
  go_loop [9] (fun i => ∃ k : Nat, k ≤ n ∧ i = .int .i64 k ∧ Hid (∀ i, i < k → rec.getD i 0 ∈ (fs.getD i fld0).2.1)) (fun i => n - (intOf i).toNat)
  case atStart => exact ⟨0, Nat.zero_le _, rfl, Lib.hid (fun i hi => by omega)⟩
  case round =>
    obtain ⟨k, hk, rfl, hok⟩ := hrel
    by_cases hlt : k < n
    · obtain ⟨b1, o1, rfl, f1⟩ := sr.intsD hrl hlt
      have d1 := (f1 k hlt w hφ).2
      obtain ⟨b2, o2, ha, f2⟩ := R.fv.fldD hfl hlt
      obtain ⟨a3, c3, sf, f2⟩ := f2 k hlt
      have d2 := (f2 w hφ).2.2.1
      subst ha
      have HF : Hid (¬ rec.getD k 0 ∈ (fs.getD k fld0).2.1 → b = false) := Lib.hid (fun h => hb.out.symm.trans (validB_false hlt h))
      have HN : Hid (rec.getD k 0 ∈ (fs.getD k fld0).2.1 → ∀ i, i < k + 1 → rec.getD i 0 ∈ (fs.getD i fld0).2.1) := Lib.hid (fun h i hi => by
        by_cases e : i = k
        · subst e; exact h
        · exact hok.out i (by omega))
      clear f1 f2
      generalize rec.getD k 0 = x at *
      generalize (fs.getD k fld0).2.1 = cd at *
      obtain ⟨n2, hn2⟩ : ∃ n2, Hid (cd.length = n2) := ⟨_, Lib.hid rfl⟩
      rw [hn2.out] at d2
      have e3 := sf.capn
      have e4 := sf.capm
      rw [hn2.out] at e3
      unfold maxLen at e4
      by_cases hm : x ∈ cd
      · have HM := Lib.hid hm
        clear hm
        go_wp2_with (go_at_call 42; refine (Contains_t n2 a3 c3 cd x w φ hφ sf hn2 (by omega) HM.out).mono ?_; rintro e w' ⟨rfl, rfl⟩)
        go_round
        case rel => exact ⟨k + 1, by omega, by go_num, Lib.hid (HN.out HM.out)⟩
        case measure => simp [intOf]; omega
      · have HM := Lib.hid hm
        clear hm
        go_wp2_with (go_at_call 42; refine (Contains_f n2 a3 c3 cd x w φ hφ sf hn2 (by omega) HM.out).mono ?_; rintro e w' ⟨rfl, rfl⟩)
        go_ret
        exact ⟨ret_bool (HF.out HM.out).symm, rfl⟩
    · obtain rfl : k = n := by omega
      go_wp2
      go_ret
      exact ⟨ret_bool ((validB_true hok.out).symm.trans hb.out), rfl⟩
/-- A record passes. -/
def passB (fs : List Fld) (es : List Edt) (rec : List Int) (n m : Nat) : Bool := validB fs rec n && decide ((failL es rec n m).length = 0)
def BoolB (b : Bool) (w : World) (e : Ending) (w' : World) : Prop := e = .returned (.bool b) ∧ Below w.heap.size w w'
theorem passes_any
  {φ : Phi} {br : Nat} {fs : List Fld} {es : List Edt} {n m : Nat} {a : Option Addr} {cap : Nat} {ae : Option Addr} {ce : Nat} {ab : Option Addr} {cb : Nat} (R : RulV φ br fs es n m a cap ae ce ab cb)
    (w : World) (hφ : Fz φ w) (a2 : Option Addr) (c2 : Nat) (rec : List Int) (sr : SlV φ a2 c2 rec) (hrl : Hid (rec.length = n)) {b : Bool} (hb : Hid (passB fs es rec n m = b)) :
    Calls Tryd.prog 34 #[.pointer (some ⟨br, 0, none⟩), .slice a2 n c2] w (BoolB b w) := by
  obtain ⟨v, hv⟩ : ∃ v, Hid (validB fs rec n = v) := ⟨_, Lib.hid rfl⟩
  cases v
  case false =>
    go_enter Tryd.func34, Tryd.ntmps34
    go_wp2_with (go_at_call 67; refine (valid_any R w hφ a2 c2 rec sr hrl hv).mono ?_; rintro e w' ⟨rfl, rfl⟩)
    go_ret
    exact ⟨ret_bool (by rw [← hb.out, passB, hv.out]; rfl), Below.refl _ _⟩
  case true =>
    obtain ⟨l, hl⟩ : ∃ l, Hid (failL es rec n m = l) := ⟨_, Lib.hid rfl⟩
    have hbb : Hid (b = decide (l.length = 0)) := Lib.hid (by rw [← hb.out, passB, hv.out, hl.out]; rfl)
    go_enter Tryd.func34, Tryd.ntmps34
    go_wp2_with (first
      | (go_at_call 67; refine (valid_any R w hφ a2 c2 rec sr hrl hv).mono ?_; rintro e w' ⟨rfl, rfl⟩)
      | (go_at_call 31; refine (fails_any R w hφ a2 c2 rec sr hrl).mono ?_; rintro e w' ⟨a5, c5, rfl, hi5, ho5⟩; rw [hl.out]))
    go_ret
    exact ⟨ret_bool (by rw [hbb.out, Bool.eq_iff_iff]; simp), hi5.bel⟩
/-- The error of a record. -/
def recBad (rec : List Int) (i : Nat) : Int := if outB (rec.getD i 0) 0 999 = true then 1 else 0
def recF (n : Nat) (rec : List Int) : Int := if rec.length ≠ n then 3 else scan (recBad rec) rec.length
theorem recordFault_any
  {φ : Phi} {br : Nat} {fs : List Fld} {es : List Edt} {n m : Nat} {a : Option Addr} {cap : Nat} {ae : Option Addr} {ce : Nat} {ab : Option Addr} {cb : Nat} (R : RulV φ br fs es n m a cap ae ce ab cb)
    (w : World) (hφ : Fz φ w) (nr : Nat) (a2 : Option Addr) (c2 : Nat) (rec : List Int) (sr : SlV φ a2 c2 rec) (hrl : Hid (rec.length = nr)) (hm : nr ≤ 9223372036854775807) :
    Calls Tryd.prog 64 #[.pointer (some ⟨br, 0, none⟩), .slice a2 nr c2] w (fun e w' => e = .returned (.int .i64 (recF n rec)) ∧ w = w') := by
  have r0 : w.cell? ⟨br, 0, none⟩ = some (.slice a n cap) := (R.blk hφ).cell 0
  have hn12 := R.ok.pos
  have hrf : Hid (recF n rec = if nr ≠ n then 3 else scan (recBad rec) nr) := Lib.hid (by rw [recF, hrl.out])
  by_cases hne : nr = n
  case neg =>
    have hb1 : ((nr : Int) != n) = true := by simp; omega
    have HNE := Lib.hid hne
    clear hne
    go_enter Tryd.func64, Tryd.ntmps64
    go_wp2
    go_ret
    exact ⟨ret_int (by rw [hrf.out, if_pos HNE.out]), rfl⟩
  subst hne
  have hb1 : ((nr : Int) != nr) = false := by simp
  go_enter Tryd.func64, Tryd.ntmps64
  go_wp2
  clear hb1
  go_loop [18] (fun i => ∃ k : Nat, k ≤ nr ∧ i = .int .i64 k ∧ Hid (∀ i, i < k → recBad rec i = 0)) (fun i => nr - (intOf i).toNat)
  case atStart => exact ⟨0, Nat.zero_le _, rfl, none_yet _⟩
  case round =>
    obtain ⟨k, hk, rfl, hok⟩ := hrel
    by_cases hlt : k < nr
    · obtain ⟨b1, o1, rfl, f1⟩ := sr.intsD hrl hlt
      have d1 := (f1 k hlt w hφ).2
      have hbad : Hid (recBad rec k = _) := Lib.hid (recBad.eq_1 rec k)
      clear f1
      generalize rec.getD k 0 = x at *
      obtain ⟨o, ho⟩ : ∃ o, Hid (outB x 0 999 = o) := ⟨_, Lib.hid rfl⟩
      cases o
      case true =>
        go_wp2_with (go_at_call 36; refine (outside_b _ _ _ _ ho.out).mono ?_; rintro e w' ⟨rfl, rfl⟩)
        go_ret
        exact ⟨ret_int (by rw [hrf.out, if_neg (by simp), scan_stop hok.out hlt (by rw [hbad.out, if_pos ho.out]; decide), hbad.out, if_pos ho.out]), rfl⟩
      case false =>
        go_wp2_with (go_at_call 36; refine (outside_b _ _ _ _ ho.out).mono ?_; rintro e w' ⟨rfl, rfl⟩)
        go_round
        case rel => exact ⟨k + 1, by omega, by go_num, next_ok hok (by rw [hbad.out, if_neg (by rw [ho.out]; simp)])⟩
        case measure => simp [intOf]; omega
    · obtain rfl : k = nr := by omega
      go_wp2
      go_ret
      exact ⟨ret_int (by rw [hrf.out, if_neg (by simp), scan_zero _ _ hok.out]), rfl⟩
end Go.Proofs.YtambgcijceecpaaDoor
