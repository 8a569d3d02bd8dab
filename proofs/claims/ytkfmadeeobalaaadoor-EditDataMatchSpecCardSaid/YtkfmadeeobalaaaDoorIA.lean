/- What impute computes: the plain law. The walks of taken and listFault. Conditions: none beyond what the claim form gives. -/
import Derived.Test.YtkfmadeeobalaaaDoorED
import Derived.Test.YtkfmadeeobalaaaDoorEC
namespace Go.Proofs.YtkfmadeeobalaaaDoor
open Go.RowKit
set_option linter.unusedVariables false
/-- A record with the values of another one in some fields. -/
def takenF (rec d fields : List Int) : List Int := fields.foldl (fun x i => x.set i.toNat (d.getD i.toNat 0)) rec
theorem takenF_snoc (rec d l : List Int) (x : Int) : takenF rec d (l ++ [x]) = (takenF rec d l).set x.toNat (d.getD x.toNat 0) := by unfold takenF; rw [List.foldl_append]; rfl
theorem takenF_len (d : List Int) : ∀ (l rec : List Int), (takenF rec d l).length = rec.length
  | [], rec => rfl
  | x :: l, rec => by
    show (takenF _ d l).length = _
    rw [takenF_len d l]; simp
theorem takenF_at (d : List Int) : ∀ (l rec : List Int), (∀ x ∈ l, 0 ≤ x ∧ x < (rec.length : Int)) → ∀ r : Nat, (takenF rec d l).getD r 0 = if (r : Int) ∈ l then d.getD r 0 else rec.getD r 0
  | [], rec, _, r => by simp [takenF]
  | x :: l, rec, hr, r => by
    have h0 := hr x (by simp)
    show (takenF _ d l).getD r 0 = _
    rw [takenF_at d l _ (fun y hy => by rw [List.length_set]; exact hr y (by simp [hy])) r]
    by_cases e : (r : Int) ∈ l
    · rw [if_pos e, if_pos (by simp [e])]
    · rw [if_neg e, getD_set_ite rec _ (by omega)]
      by_cases e2 : r = x.toNat
      · have e3 : (r : Int) = x := by omega
        rw [if_pos e2, if_pos (by rw [e3]; simp), e2]
      · have e3 : ¬ (r : Int) = x := by omega
        rw [if_neg e2, if_neg (by simp [e, e3])]
/-- The same, field by field. -/
def nowK (rec d fields : List Int) (k : Nat) : List Int := (List.range rec.length).map (fun i : Nat => if i < k ∧ (i : Int) ∈ fields then d.getD i 0 else rec.getD i 0)
theorem nowK_len (rec d fields : List Int) (k : Nat) : (nowK rec d fields k).length = rec.length := by unfold nowK; simp
theorem nowK_at {rec d fields : List Int} {k i : Nat} (hi : i < rec.length) : (nowK rec d fields k).getD i 0 = if i < k ∧ (i : Int) ∈ fields then d.getD i 0 else rec.getD i 0 := by
  unfold nowK; rw [getD_map0 _ _ _ 0 (by simpa using hi), getD_range0 hi]
theorem nowK_zero (rec d fields : List Int) : nowK rec d fields 0 = rec := by
  apply ext_getD0 0 (nowK_len _ _ _ _)
  intro i hi
  rw [nowK_len] at hi
  rw [nowK_at hi, if_neg (by omega)]
theorem nowK_t {rec d fields : List Int} {k : Nat} (hk : k < rec.length) (h : (k : Int) ∈ fields) : nowK rec d fields (k + 1) = (nowK rec d fields k).set k (d.getD k 0) := by
  apply ext_getD0 0 (by rw [List.length_set, nowK_len, nowK_len])
  intro i hi
  rw [nowK_len] at hi
  rw [nowK_at hi, getD_set_ite _ _ (by rw [nowK_len]; exact hk), nowK_at hi]
  by_cases e : i = k
  · subst e; rw [if_pos ⟨by omega, h⟩, if_pos rfl]
  · rw [if_neg e]
    by_cases c : i < k ∧ (i : Int) ∈ fields
    · rw [if_pos c, if_pos ⟨by omega, c.2⟩]
    · rw [if_neg c, if_neg (fun q => c ⟨by omega, q.2⟩)]
theorem nowK_f {rec d fields : List Int} {k : Nat} (h : ¬ (k : Int) ∈ fields) : nowK rec d fields (k + 1) = nowK rec d fields k := by
  apply ext_getD0 0 (by rw [nowK_len, nowK_len])
  intro i hi
  rw [nowK_len] at hi
  rw [nowK_at hi, nowK_at hi]
  by_cases c : i < k ∧ (i : Int) ∈ fields
  · rw [if_pos c, if_pos ⟨by omega, c.2⟩]
  · rw [if_neg c, if_neg (fun q => c ⟨by
      have : i ≠ k := fun e => h (e ▸ q.2)
      omega, q.2⟩)]
theorem nowK_all {rec d fields : List Int} {n : Nat} (hn : rec.length = n) (hr : ∀ x ∈ fields, 0 ≤ x ∧ x < (n : Int)) : nowK rec d fields n = takenF rec d fields := by
  apply ext_getD0 0 (by rw [nowK_len, takenF_len])
  intro i hi
  rw [nowK_len] at hi
  rw [nowK_at hi, takenF_at _ _ _ (by rw [hn]; exact hr)]
  by_cases e : (i : Int) ∈ fields
  · rw [if_pos ⟨by omega, e⟩, if_pos e]
  · rw [if_neg (fun q => e q.2), if_neg e]
/-- How far a donor is. -/
def farK (fs : List Fld) (rec d fields : List Int) (k : Nat) : Int := wSum fs (apL (takenF rec d fields) d k)
section
variable {fs : List Fld} {rec d fields : List Int} {n k : Nat}
theorem farK_t (hn : rec.length = n) (hr : ∀ x ∈ fields, 0 ≤ x ∧ x < (n : Int)) (h : (k : Int) ∈ fields) : farK fs rec d fields (k + 1) = farK fs rec d fields k := by
  unfold farK
  rw [apL_f]
  rw [takenF_at _ _ _ (by rw [hn]; exact hr), if_pos h]
theorem farK_e (hn : rec.length = n) (hr : ∀ x ∈ fields, 0 ≤ x ∧ x < (n : Int)) (h : ¬ (k : Int) ∈ fields) (he : d.getD k 0 = rec.getD k 0) : farK fs rec d fields (k + 1) = farK fs rec d fields k := by
  unfold farK
  rw [apL_f]
  rw [takenF_at _ _ _ (by rw [hn]; exact hr), if_neg h, he]
theorem farK_n (hn : rec.length = n) (hr : ∀ x ∈ fields, 0 ≤ x ∧ x < (n : Int)) (h : ¬ (k : Int) ∈ fields) (he : d.getD k 0 ≠ rec.getD k 0) : farK fs rec d fields (k + 1) = farK fs rec d fields k + (fs.getD k fld0).2.2 := by
  unfold farK
  rw [apL_t, wSum_snoc]
  · rfl
  · rw [takenF_at _ _ _ (by rw [hn]; exact hr), if_neg h]; exact fun e => he e.symm
theorem farK_zero : farK fs rec d fields 0 = 0 := rfl
end
theorem farK_bd {fs : List Fld} {es : List Edt} {rec d fields : List Int} {n m : Nat} (h : PlOk fs es n m) {k : Nat} (hk : k ≤ n) : 0 ≤ farK fs rec d fields k ∧ farK fs rec d fields k ≤ 1000 * (k : Int) := by
  have h2 := wSum_bd (fs := fs) (l := apL (takenF rec d fields) d k) (fun j hj => by
    obtain ⟨i, rfl, h1, _⟩ := mem_apL.1 hj
    have := wts h (k := (i : Int)) (by omega) (by omega)
    omega)
  have h3 := apL_len (takenF rec d fields) d k
  unfold farK
  omega
/-- A record, its donor, how far that one is. -/
abbrev ISt := List Int × Int × Int
noncomputable def impV (fs : List Fld) (es : List Edt) (n m : Nat) (rec fields : List Int) (ds : List (List Int)) (s : ISt) (k : Int) : ISt :=
  if (s.2.1 < 0 ∨ farK fs rec (ds.getD k.toNat []) fields n < s.2.2) ∧ passB fs es (takenF rec (ds.getD k.toNat []) fields) n m = true ∧ passB fs es (ds.getD k.toNat []) n m = true then (takenF rec (ds.getD k.toNat []) fields, k, farK fs rec (ds.getD k.toNat []) fields n) else s
noncomputable def impF (fs : List Fld) (es : List Edt) (n m : Nat) (rec fields : List Int) (ds : List (List Int)) (order : List Int) (s : ISt) : ISt := order.foldl (impV fs es n m rec fields ds) s
section
variable {fs : List Fld} {es : List Edt} {n m : Nat} {rec fields : List Int} {ds : List (List Int)}
theorem impF_snoc (l : List Int) (x : Int) (s : ISt) : impF fs es n m rec fields ds (l ++ [x]) s = impV fs es n m rec fields ds (impF fs es n m rec fields ds l s) x := by unfold impF; rw [List.foldl_append]; rfl
/-- The start's record is of no matter but where no donor is found. -/
def IRel (r0 r1 : List Int) (s t : ISt) : Prop := s.2 = t.2 ∧ ((s.2.1 < 0 ∧ s.1 = r0 ∧ t.1 = r1) ∨ (0 ≤ s.2.1 ∧ s.1 = t.1))
theorem impF_rel {r0 r1 : List Int} : ∀ (l : List Int) (s t : ISt), (∀ k ∈ l, 0 ≤ k) → IRel r0 r1 s t → IRel r0 r1 (impF fs es n m rec fields ds l s) (impF fs es n m rec fields ds l t)
  | [], s, t, _, h => h
  | x :: l, s, t, hl, h => by
    refine impF_rel l _ _ (fun k hk => hl k (by simp [hk])) ?_
    unfold impV
    rw [← h.1]
    split
    · exact ⟨rfl, .inr ⟨hl x (by simp), rfl⟩⟩
    · exact h
/-- What holds of the state: a donor is one of the donors, it passes, and so does the record. -/
structure IOk (fs : List Fld) (es : List Edt) (n m : Nat) (rec fields : List Int) (ds : List (List Int)) (r0 : List Int) (s : ISt) : Prop where
  lo : -1 ≤ s.2.1
  hi : s.2.1 < (ds.length : Int)
  no : s.2.1 < 0 → s.1 = r0
  yes : 0 ≤ s.2.1 → s.1 = takenF rec (ds.getD s.2.1.toNat []) fields ∧ passB fs es s.1 n m = true ∧ passB fs es (ds.getD s.2.1.toNat []) n m = true
theorem IOk.start (r0 : List Int) : IOk fs es n m rec fields ds r0 (r0, -1, 0) := ⟨by simp, by simp; omega, fun _ => rfl, fun h => by simp at h⟩
theorem impF_ok {r0 : List Int} : ∀ (l : List Int) (s : ISt), (∀ k ∈ l, 0 ≤ k ∧ k < (ds.length : Int)) → IOk fs es n m rec fields ds r0 s → IOk fs es n m rec fields ds r0 (impF fs es n m rec fields ds l s)
  | [], s, _, h => h
  | x :: l, s, hl, h => by
    refine impF_ok l _ (fun k hk => hl k (by simp [hk])) ?_
    have hx := hl x (by simp)
    unfold impV
    split
    · next c => exact ⟨by simp; omega, hx.2, fun q => by simp at q; omega, fun _ => ⟨rfl, c.2⟩⟩
    · exact h
end
/-- The repair of a record: the record, its donor. -/
noncomputable def impR (fs : List Fld) (es : List Edt) (n m : Nat) (rec fields : List Int) (ds : List (List Int)) (order : List Int) : List Int × Int :=
  if fields.length = 0 then (rec, -1)
  else if (impF fs es n m rec fields ds order (rec, -1, 0)).2.1 < 0 then ((firstS fs es n m rec fields).1, (impF fs es n m rec fields ds order (rec, -1, 0)).2.1)
  else ((impF fs es n m rec fields ds order (rec, -1, 0)).1, (impF fs es n m rec fields ds order (rec, -1, 0)).2.1)
/-- The reference starts with the first record. -/
theorem impR_first {fs : List Fld} {es : List Edt} {n m : Nat} {rec fields : List Int} {ds : List (List Int)} {order : List Int} (hf : fields.length ≠ 0) (ho : ∀ k ∈ order, 0 ≤ k) :
    impR fs es n m rec fields ds order = ((impF fs es n m rec fields ds order ((firstS fs es n m rec fields).1, -1, 0)).1, (impF fs es n m rec fields ds order ((firstS fs es n m rec fields).1, -1, 0)).2.1) := by
  have h := impF_rel (fs := fs) (es := es) (n := n) (m := m) (rec := rec) (fields := fields) (ds := ds) (r0 := rec) (r1 := (firstS fs es n m rec fields).1) order (rec, -1, 0) ((firstS fs es n m rec fields).1, -1, 0) ho ⟨rfl, .inl ⟨by simp, rfl, rfl⟩⟩
  unfold impR
  rw [if_neg hf]
  obtain ⟨h1, h2⟩ := h
  rcases h2 with ⟨h2, h3, h4⟩ | ⟨h2, h3⟩
  · rw [if_pos h2, h4, ← h1]
  · rw [if_neg (by omega), h3, ← h1]
/-- With no field to change, the first record is the record. -/
theorem firstS_none {fs : List Fld} {es : List Edt} {n m : Nat} {rec : List Int} (hr : rec.length = n) (h : (firstS fs es n m rec []).2 = true) : (firstS fs es n m rec []).1 = rec ∧ passB fs es rec n m = true := by
  obtain ⟨h1, h2⟩ := firstS_some h
  obtain ⟨h3, h4⟩ := (mem_first hr).1 h1
  have e : (firstS fs es n m rec []).1 = rec := ext_getD (by rw [h3, hr]) (fun i hi => by
    have := h4 i (by omega)
    rwa [if_neg (by simp)] at this)
  rw [e] at h2
  exact ⟨e, h2⟩
end Go.Proofs.YtkfmadeeobalaaaDoor

namespace Go.Proofs.YtkfmadeeobalaaaDoor
open Go.RowKit
set_option linter.unusedVariables false
theorem taken_any {w : World} {φ : Phi} (hφ : Fz φ w) {n nf : Nat} (hn : n ≤ 1000000) {a1 : Option Addr} {c1 : Nat} {rec : List Int} (s1 : SlV φ a1 c1 rec) (h1 : Hid (rec.length = n)) {a2 : Option Addr} {c2 : Nat} {d : List Int} (s2 : SlV φ a2 c2 d) (h2 : Hid (d.length = n)) {a3 : Option Addr} {c3 : Nat} {fields : List Int} (s3 : SlV φ a3 c3 fields) (h3 : Hid (fields.length = nf)) (hr : Hid (∀ x ∈ fields, 0 ≤ x ∧ x < (n : Int))) :
    Calls Tryd.prog 74 #[.slice a1 n c1, .slice a2 n c2, .slice a3 nf c3] w (OwnPostN n (takenF rec d fields) φ w) := by
  have hc := s3.capn
  have hm := s3.capm
  rw [h3.out] at hc
  unfold maxLen at hm
  have HF := Lib.hid hφ
  go_enter Tryd.func74, Tryd.ntmps74
  go_wp2_with (go_at_call 72; refine (Clone_n hφ s1 h1 hn).mono ?_; rintro e w1 ⟨a5, c5, rfl, hi5, ho5⟩)
  have HS : Hid (Inv w.heap.size w φ φ w1 ∧ Own w.heap.size φ w1 3 a5 c5 (takenF rec d (fields.take 0))) := Lib.hid ⟨hi5, by rw [List.take_zero]; exact ho5⟩
  clear hi5 ho5
  go_loopw [14] (fun i wr => ∃ j : Nat, j ≤ nf ∧ i = .int .i64 j ∧ Hid (Inv w.heap.size w φ φ wr ∧ Own w.heap.size φ wr 3 a5 c5 (takenF rec d (fields.take j)))) (fun i _ => nf - (intOf i).toNat)
  case atStart => exact ⟨0, Nat.zero_le _, rfl, HS⟩
  case round =>
    clear HS
    obtain ⟨j, hj, rfl, hS⟩ := hrel
    by_cases hlt : j < nf
    · obtain ⟨b3, o3, rfl, f3⟩ := s3.intsD h3 hlt
      have d3 := (f3 j hlt wr hS.out.1.fz).2
      have hri := hr.out (fields.getD j 0) (by rw [getD_elem0 _ _ _ (by rw [h3.out]; exact hlt)]; exact List.getElem_mem _)
      have HT := Lib.hid (take_snocD 0 fields j nf h3.out hlt)
      obtain ⟨i, hi⟩ : ∃ i : Nat, fields.getD j 0 = i := ⟨(fields.getD j 0).toNat, by omega⟩
      rw [hi] at d3 hri HT
      have hin : i < n := by omega
      obtain ⟨b2, o2, rfl, f2⟩ := s2.intsD h2 hin
      have d2 := (f2 i hin wr hS.out.1.fz).2
      obtain ⟨g, hg, hgl, fO⟩ := hS.out.2.intsD (n := n) (Lib.hid ((takenF_len _ _ _).trans h1.out)) hin
      subst hg
      obtain ⟨d5, d6, hst⟩ := fO i hin
      have HT2 : Hid (takenF rec d (fields.take (j + 1)) = (takenF rec d (fields.take j)).set i (d.getD i 0)) := Lib.hid (by
        rw [HT.out, takenF_snoc, show ((i : Int)).toNat = i by omega])
      have HST := Lib.hid (hst (d.getD i 0) w φ hS.out.1)
      clear f3 f2 fO hst hS
      generalize d.getD i 0 = v at *
      have hi := Lib.hid hi
      go_wp2
      go_roundw
      case rel => exact ⟨j + 1, by omega, by go_num, by rw [HT2.out]; exact Lib.hid ⟨HST.out.2, HST.out.1⟩⟩
      case measure => (simp [intOf] <;> omega)
    · obtain rfl : j = nf := by omega
      have h := hS
      rw [← h3.out, List.take_length] at h
      go_wp2
      go_ret
      exact ⟨a5, c5, rfl, h.out.1, h.out.2⟩
/-- The fault of a list of records. -/
def listF (n : Nat) (l : List (List Int)) : Int := if 3000 < l.length then 2 else scan (fun i => recF n (l.getD i [])) l.length
theorem listF_zero {n : Nat} {l : List (List Int)} (h : listF n l = 0) : l.length ≤ 3000 ∧ ∀ i, i < l.length → (l.getD i []).length = n := by
  unfold listF at h
  split at h
  · cases h
  · next h1 => exact ⟨by omega, fun i hi => recF_len (scan_all _ h i hi)⟩
theorem listFault_any
  {φ : Phi} {br : Nat} {fs : List Fld} {es : List Edt} {n m : Nat} {a : Option Addr} {cap : Nat} {ae : Option Addr} {ce : Nat} {ab : Option Addr} {cb : Nat} (R : RulV φ br fs es n m a cap ae ce ab cb)
    (w : World) (hφ : Fz φ w) (nl : Nat) (a2 : Option Addr) (c2 : Nat) (l : List (List Int)) (sl : SlV φ a2 c2 l) (hll : Hid (l.length = nl)) {q : Int} (hq : Hid (listF n l = q)) :
    Calls Tryd.prog 23 #[.pointer (some ⟨br, 0, none⟩), .slice a2 nl c2] w (fun e w' => e = .returned (.int .i64 q) ∧ w = w') := by
  have hc := sl.capn
  have hm := sl.capm
  rw [hll.out] at hc
  unfold maxLen at hm
  have hf := hq.out
  rw [listF, hll.out] at hf
  by_cases hg : 3000 < nl
  · rw [if_pos hg] at hf
    have HF := Lib.hid hf
    clear hf
    go_enter Tryd.func23, Tryd.ntmps23
    go_wp2
    go_ret
    exact ⟨ret_int HF.out, rfl⟩
  · rw [if_neg hg] at hf
    have HF := Lib.hid hf
    clear hf
    go_enter Tryd.func23, Tryd.ntmps23
    go_wp2
    go_loop [13] (fun i => ∃ k : Nat, k ≤ nl ∧ i = .int .i64 k ∧ Hid (∀ i, i < k → recF n (l.getD i []) = 0)) (fun i => nl - (intOf i).toNat)
    case atStart => exact ⟨0, Nat.zero_le _, rfl, Lib.hid (fun i hi => by omega)⟩
    case round =>
      obtain ⟨k, hk, rfl, hok⟩ := hrel
      by_cases hlt : k < nl
      · obtain ⟨b3, o3, rfl, f3⟩ := sl.lists hll hlt
        obtain ⟨a4, c4, s4, f3⟩ := f3 k hlt
        have d3 := (f3 w hφ).2
        have HST : Hid (recF n (l.getD k []) ≠ 0 → q = recF n (l.getD k [])) := Lib.hid (fun h => by
          rw [← HF.out, scan_stop hok.out hlt h])
        have HNX : Hid (recF n (l.getD k []) = 0 → ∀ i, i < k + 1 → recF n (l.getD i []) = 0) := Lib.hid (fun h => (next_ok hok h).out)
        clear f3
        generalize l.getD k [] = x at *
        obtain ⟨nx, hnx⟩ : ∃ j, Hid (x.length = j) := ⟨_, Lib.hid rfl⟩
        rw [hnx.out] at d3
        have hl4 := s4.len
        rw [hnx.out] at hl4
        have C := recordFault_any R w hφ nx a4 c4 x s4 hnx hl4
        generalize recF n x = fx at *
        by_cases hz : fx = 0
        · subst hz
          have H2 := Lib.hid (HNX.out rfl)
          go_wp2_with (go_at_call 34; refine C.mono ?_; rintro e w' ⟨rfl, rfl⟩)
          go_round
          case rel => exact ⟨k + 1, by omega, by go_num, H2⟩
          case measure => (simp [intOf] <;> omega)
        · have H2 := Lib.hid (HST.out hz)
          have hb : (fx != 0) = true := by simp [hz]
          clear hz
          go_wp2_with (go_at_call 34; refine C.mono ?_; rintro e w' ⟨rfl, rfl⟩)
          go_ret
          exact ⟨ret_int H2.out.symm, rfl⟩
      · obtain rfl : k = nl := by omega
        go_wp2
        go_ret
        exact ⟨ret_int (by rw [← HF.out, scan_zero _ _ hok.out]), rfl⟩
end Go.Proofs.YtkfmadeeobalaaaDoor
