/- The walks of taken and listFault. Conditions: none beyond what the claim form gives. -/
import Derived.Test.YtambgcijceecpaaDoorI1
import Derived.Test.YtambgcijceecpaaDoorEC
namespace Go.Proofs.YtambgcijceecpaaDoor
open Go.RowKit
set_option linter.unusedVariables false
theorem taken_any {w : World} {φ : Phi} (hφ : Fz φ w) {n nf : Nat} (hn : n ≤ 1000000) {a1 : Option Addr} {c1 : Nat} {rec : List Int} (s1 : SlV φ a1 c1 rec) (h1 : Hid (rec.length = n)) {a2 : Option Addr} {c2 : Nat} {d : List Int} (s2 : SlV φ a2 c2 d) (h2 : Hid (d.length = n)) {a3 : Option Addr} {c3 : Nat} {fields : List Int} (s3 : SlV φ a3 c3 fields) (h3 : Hid (fields.length = nf)) (hr : Hid (∀ x ∈ fields, 0 ≤ x ∧ x < (n : Int))) :
    Calls Tryd.prog 82 #[.slice a1 n c1, .slice a2 n c2, .slice a3 nf c3] w (OwnPostN n (takenF rec d fields) φ w) := by
  have hc := s3.capn
  have hm := s3.capm
  rw [h3.out] at hc
  unfold maxLen at hm
  have HF := Lib.hid hφ
  go_enter Tryd.func82, Tryd.ntmps82
  go_wp2_with (go_at_call 69; refine (Clone_n hφ s1 h1 hn).mono ?_; rintro e w1 ⟨a5, c5, rfl, hi5, ho5⟩)
  have HS : Hid (Inv w.heap.size w φ φ w1 ∧ Own w.heap.size φ w1 3 a5 c5 (takenF rec d (fields.take 0))) := Lib.hid ⟨hi5, by rw [List.take_zero]; exact ho5⟩
  clear hi5 ho5
  go_loopw [14] (fun i wr => ∃ j : Nat, j ≤ nf ∧ i = .int .i64 j ∧ Hid (Inv w.heap.size w φ φ wr ∧ Own w.heap.size φ wr 3 a5 c5 (takenF rec d (fields.take j)))) (fun i _ => nf - (intOf i).toNat)
  case atStart => exact ⟨0, Nat.zero_le _, rfl, HS⟩
  case round =>
    clear HS
    obtain ⟨j, hj, rfl, hS⟩ := hrel
    by_cases hlt : j < nf
    · obtain ⟨b3, o3, rfl, f3⟩ := s3.intsD h3 hlt
      have d3 := (f3 j hlt wr hS.out.1.fz).2
      have hri := hr.out (fields.getD j 0) (by rw [getD_elem0 _ _ _ (by rw [h3.out]; exact hlt)]; exact List.getElem_mem _)
      have HT := Lib.hid (take_snocD 0 fields j nf h3.out hlt)
      obtain ⟨i, hi⟩ : ∃ i : Nat, fields.getD j 0 = i := ⟨(fields.getD j 0).toNat, by omega⟩
      rw [hi] at d3 hri HT
      have hin : i < n := by omega
      obtain ⟨b2, o2, rfl, f2⟩ := s2.intsD h2 hin
      have d2 := (f2 i hin wr hS.out.1.fz).2
      obtain ⟨g, hg, hgl, fO⟩ := hS.out.2.intsD (n := n) (Lib.hid ((takenF_len _ _ _).trans h1.out)) hin
      subst hg
      obtain ⟨d5, d6, hst⟩ := fO i hin
      have HT2 : Hid (takenF rec d (fields.take (j + 1)) = (takenF rec d (fields.take j)).set i (d.getD i 0)) := Lib.hid (by
        rw [HT.out, takenF_snoc, show ((i : Int)).toNat = i by omega])
      have HST := Lib.hid (hst (d.getD i 0) w φ hS.out.1)
      clear f3 f2 fO hst hS
      generalize d.getD i 0 = v at *
      have hi := Lib.hid hi
      go_wp2
      go_roundw
      case rel => exact ⟨j + 1, by omega, by go_num, by rw [HT2.out]; exact Lib.hid ⟨HST.out.2, HST.out.1⟩⟩
      case measure => simp [intOf]; omega
    · obtain rfl : j = nf := by omega
      have h := hS
      rw [← h3.out, List.take_length] at h
      go_wp2
      go_ret
      exact ⟨a5, c5, rfl, h.out.1, h.out.2⟩
/-- The fault of a list of records. -/
def listF (n : Nat) (l : List (List Int)) : Int := if 3000 < l.length then 2 else scan (fun i => recF n (l.getD i [])) l.length
theorem listF_zero {n : Nat} {l : List (List Int)} (h : listF n l = 0) : l.length ≤ 3000 ∧ ∀ i, i < l.length → (l.getD i []).length = n := by
  unfold listF at h
  split at h
  · cases h
  · next h1 => exact ⟨by omega, fun i hi => recF_len (scan_all _ h i hi)⟩
theorem listFault_any
  {φ : Phi} {br : Nat} {fs : List Fld} {es : List Edt} {n m : Nat} {a : Option Addr} {cap : Nat} {ae : Option Addr} {ce : Nat} {ab : Option Addr} {cb : Nat} (R : RulV φ br fs es n m a cap ae ce ab cb)
    (w : World) (hφ : Fz φ w) (nl : Nat) (a2 : Option Addr) (c2 : Nat) (l : List (List Int)) (sl : SlV φ a2 c2 l) (hll : Hid (l.length = nl)) {q : Int} (hq : Hid (listF n l = q)) :
    Calls Tryd.prog 48 #[.pointer (some ⟨br, 0, none⟩), .slice a2 nl c2] w (fun e w' => e = .returned (.int .i64 q) ∧ w = w') := by
  have hc := sl.capn
  have hm := sl.capm
  rw [hll.out] at hc
  unfold maxLen at hm
  have hf := hq.out
  rw [listF, hll.out] at hf
  by_cases hg : 3000 < nl
  · rw [if_pos hg] at hf
    have HF := Lib.hid hf
    clear hf
    go_enter Tryd.func48, Tryd.ntmps48
    go_wp2
    go_ret
    exact ⟨ret_int HF.out, rfl⟩
  · rw [if_neg hg] at hf
    have HF := Lib.hid hf
    clear hf
    go_enter Tryd.func48, Tryd.ntmps48
    go_wp2
    go_loop [13] (fun i => ∃ k : Nat, k ≤ nl ∧ i = .int .i64 k ∧ Hid (∀ i, i < k → recF n (l.getD i []) = 0)) (fun i => nl - (intOf i).toNat)
    case atStart => exact ⟨0, Nat.zero_le _, rfl, Lib.hid (fun i hi => by omega)⟩
    case round =>
      obtain ⟨k, hk, rfl, hok⟩ := hrel
      by_cases hlt : k < nl
      · obtain ⟨b3, o3, rfl, f3⟩ := sl.lists hll hlt
        obtain ⟨a4, c4, s4, f3⟩ := f3 k hlt
        have d3 := (f3 w hφ).2
        have HST : Hid (recF n (l.getD k []) ≠ 0 → q = recF n (l.getD k [])) := Lib.hid (fun h => by
          rw [← HF.out, scan_stop hok.out hlt h])
        have HNX : Hid (recF n (l.getD k []) = 0 → ∀ i, i < k + 1 → recF n (l.getD i []) = 0) := Lib.hid (fun h => (next_ok hok h).out)
        clear f3
        generalize l.getD k [] = x at *
        obtain ⟨nx, hnx⟩ : ∃ j, Hid (x.length = j) := ⟨_, Lib.hid rfl⟩
        rw [hnx.out] at d3
        have hl4 := s4.len
        rw [hnx.out] at hl4
        have C := recordFault_any R w hφ nx a4 c4 x s4 hnx hl4
        generalize recF n x = fx at *
        by_cases hz : fx = 0
        · subst hz
          have H2 := Lib.hid (HNX.out rfl)
          go_wp2_with (go_at_call 64; refine C.mono ?_; rintro e w' ⟨rfl, rfl⟩)
          go_round
          case rel => exact ⟨k + 1, by omega, by go_num, H2⟩
          case measure => simp [intOf]; omega
        · have H2 := Lib.hid (HST.out hz)
          have hb : (fx != 0) = true := by simp [hz]
          clear hz
          go_wp2_with (go_at_call 64; refine C.mono ?_; rintro e w' ⟨rfl, rfl⟩)
          go_ret
          exact ⟨ret_int H2.out.symm, rfl⟩
      · obtain rfl : k = nl := by omega
        go_wp2
        go_ret
        exact ⟨ret_int (by rw [← HF.out, scan_zero _ _ hok.out]), rfl⟩
end Go.Proofs.YtambgcijceecpaaDoor
