/- The walks of recordOf and record. Conditions: none beyond what the claim form gives. -/
import Derived.Test.YtkfmadeeobalaaaDoorD9
namespace Go.Proofs.YtkfmadeeobalaaaDoor
open Go.RowKit
set_option linter.unusedVariables false
/-- The code of a field in data. -/
def codeOf (l : List Giv) (nm : ByteArray) : Int := if 0 ≤ findI l nm ∧ (l.getD (findI l nm).toNat giv0).2.1 = 4 then (l.getD (findI l nm).toNat giv0).2.2.1 else 0
def recO (fs : List Fld) (l : List Giv) (k : Nat) : List Int := (List.range k).map (fun i => codeOf l (fs.getD i fld0).1)
theorem recO_succ (fs : List Fld) (l : List Giv) (k : Nat) : recO fs l (k + 1) = recO fs l k ++ [codeOf l (fs.getD k fld0).1] := by unfold recO; rw [List.range_succ, List.map_append]; rfl
theorem recO_len (fs : List Fld) (l : List Giv) (k : Nat) : (recO fs l k).length = k := by unfold recO; simp
def RecPost (xs : List Int) (φ : Phi) (w : World) (e : Ending) (w' : World) : Prop := ∃ φ' a cap, e = .returned (.slice a xs.length cap) ∧ Inv w.heap.size w φ φ' w' ∧ SlV φ' a cap xs
set_option maxRecDepth 100000 in
set_option maxHeartbeats 2000000 in
theorem recordOf_any (n : Nat) (hn12 : n ≤ 12) (a : Option Addr) (cap : Nat) (fs : List Fld) (m : Nat) (ae : Option Addr) (ce : Nat) (w : World) (φ : Phi) (hφ : Fz φ w) (s : SlV φ a cap fs) (hn : Hid (fs.length = n)) (nd : Nat) (ad : Option Addr) (cd : Nat) (l : List Giv) (sl : SlV φ ad cd l) (hl : Hid (l.length = nd)) :
    Calls Tryd.prog 44 #[.agg #[.slice a n cap, .slice ae m ce], .slice ad nd cd] w (RecPost (recO fs l n) φ w) := by
  obtain ⟨φ1, le1, i1, k1⟩ := (Inv.start hφ).frz (.cells #[.slice a n cap, .slice ae m ce] 25)
  have S := Lib.hid (s.mono le1)
  have SL := Lib.hid (sl.mono le1)
  have hnd := sl.len
  rw [hl.out] at hnd
  have hSt : Hid (Inv w.heap.size w φ φ1 (w.alloc (.cells #[.slice a n cap, .slice ae m ce] 25)) ∧ Own w.heap.size φ1 (w.alloc (.cells #[.slice a n cap, .slice ae m ce] 25)) 3 none 0 (recO fs l 0)) := Lib.hid ⟨i1, Own.nil _ _ _ _⟩
  have p0 : (w.alloc (.cells #[.slice a n cap, .slice ae m ce] 25)).cell? ⟨w.heap.size, 0, none⟩ = some (.slice a n cap) := box_at 0
  clear i1 le1 k1
  go_enter Tryd.func44, Tryd.ntmps44
  go_wp2
  clear p0
  generalize w.alloc (.cells #[.slice a n cap, .slice ae m ce] 25) = W0 at *
  generalize hbp : w.heap.size = bp at *
  replace hbp := Lib.hid hbp
  go_loopw [5, 13] (fun v i wr => ∃ (k : Nat) (ao : Option Addr) (co : Nat), k ≤ n ∧ v = .slice ao k co ∧ i = .int .i64 k ∧ Hid (Inv bp w φ φ1 wr ∧ Own bp φ1 wr 3 ao co (recO fs l k))) (fun _ i _ => n - (intOf i).toNat)
  case atStart => exact ⟨0, none, 0, Nat.zero_le _, rfl, rfl, hSt⟩
  case round =>
    clear hSt
    obtain ⟨k, ao, co, hk, rfl, rfl, hS⟩ := hrel
    by_cases hlt : k < n
    · obtain ⟨b1, o1, rfl, f1⟩ := S.out.fldD hn hlt
      obtain ⟨a4, c4, s4, f1⟩ := f1 k hlt
      obtain ⟨_, c0, c1, c2⟩ := f1 wr hS.out.1.fz
      have HNX := Lib.hid (recO_succ fs l k)
      have HLN := Lib.hid (recO_len fs l k)
      clear f1
      generalize fs.getD k fld0 = x at *
      obtain ⟨nm, cs, wt⟩ := x
      dsimp only at c0 c1 c2 s4 HNX
      obtain ⟨nc, hnc⟩ : ∃ j, Hid (cs.length = j) := ⟨_, Lib.hid rfl⟩
      rw [hnc.out] at c1
      have hB := Lib.hid (And.intro (hS.out.1.alloc (.cells #[.string nm, .slice a4 nc c4, .int .i64 wt] 92)) (hS.out.2.alloc (.cells #[.string nm, .slice a4 nc c4, .int .i64 wt] 92)))
      have d0 : (wr.alloc (.cells #[.string nm, .slice a4 nc c4, .int .i64 wt] 92)).cell? ⟨wr.heap.size, 0, none⟩ = some (.string nm) := box_at 0
      obtain ⟨v, hv⟩ : ∃ v, Hid (findI l nm = v) := ⟨_, Lib.hid rfl⟩
      obtain ⟨q, hq⟩ : ∃ q, Hid (codeOf l nm = q) := ⟨_, Lib.hid rfl⟩
      have hq2 := hq.out
      unfold codeOf at hq2
      rw [hv.out] at hq2
      rw [hq.out] at HNX
      have HQ := Lib.hid hq2
      have hcs := findI_cases l nm
      rw [hv.out, hl.out] at hcs
      have HCS := Lib.hid hcs
      clear hq2 hcs hS
      go_wp2_with fail
      clear c0 c1 c2 d0
      refine (find_any hB.out.1.fz nm nd ad cd l SL.out hl hv).mono ?_
      rintro e w5 ⟨rfl, hb5⟩
      have hS5 := Lib.hid (And.intro (hB.out.1.callB hb5) (hB.out.2.callB hb5))
      have hin := Lib.hid hS5.out.1
      have hon := Lib.hid hS5.out.2
      clear hb5 hB
      rcases HCS.out with ⟨hv1, _⟩ | ⟨i, hi, hv1, _, _⟩
      · subst hv1
        have hq0 : q = 0 := by rw [← HQ.out, if_neg (by simp)]
        subst hq0
        go_wp2_with (at_builtin; refine wpList_app1 (α := Int) rfl _ _ 32 rfl slI hin.out ao co _ hon.out _ _ (0 : Int) rfl (by rw [HLN.out]; rfl) 1 rfl (by rw [HLN.out]; omega) ?_; intro a5 c5 w6 hi6 ho6 hg6)
        go_roundw
        case rel => exact ⟨k + 1, a5, c5, by omega, by rw [HLN.out], by go_num, by rw [HNX.out]; exact Lib.hid ⟨hi6, ho6⟩⟩
        case measure => (simp [intOf] <;> omega)
      · subst hv1
        obtain ⟨bd, od, rfl, f⟩ := SL.out.givD hl hi
        obtain ⟨ar, cr, as_, cs_, _, _, f⟩ := f i hi
        obtain ⟨_, _, _, e2, e3, _, _⟩ := f w5 hin.out.fz
        have hti : ((i : Int)).toNat = i := by omega
        rw [hti] at HQ
        clear f hti
        generalize l.getD i giv0 = g at *
        obtain ⟨⟨n2, row⟩, kd, nn, sv, set⟩ := g
        dsimp only at e2 e3 HQ
        have hi0 : decide ((i : Int) ≥ 0) = true := by simp
        by_cases h4 : kd = 4
        · have hb : (kd == 4) = true := by simp [h4]
          have hq0 : q = nn := by rw [← HQ.out, if_pos ⟨by omega, h4⟩]
          subst hq0
          clear h4
          go_wp2_with (at_builtin; refine wpList_app1 (α := Int) rfl _ _ 32 rfl slI hin.out ao co _ hon.out _ _ q rfl (by rw [HLN.out]; rfl) 1 rfl (by rw [HLN.out]; omega) ?_; intro a5 c5 w6 hi6 ho6 hg6)
          go_roundw
          case rel => exact ⟨k + 1, a5, c5, by omega, by rw [HLN.out], by go_num, by rw [HNX.out]; exact Lib.hid ⟨hi6, ho6⟩⟩
          case measure => (simp [intOf] <;> omega)
        · have hb : (kd == 4) = false := by simp [h4]
          have hq0 : q = 0 := by rw [← HQ.out, if_neg (fun e => h4 e.2)]
          subst hq0
          clear h4
          go_wp2_with (at_builtin; refine wpList_app1 (α := Int) rfl _ _ 32 rfl slI hin.out ao co _ hon.out _ _ (0 : Int) rfl (by rw [HLN.out]; rfl) 1 rfl (by rw [HLN.out]; omega) ?_; intro a5 c5 w6 hi6 ho6 hg6)
          go_roundw
          case rel => exact ⟨k + 1, a5, c5, by omega, by rw [HLN.out], by go_num, by rw [HNX.out]; exact Lib.hid ⟨hi6, ho6⟩⟩
          case measure => (simp [intOf] <;> omega)
    · obtain rfl : k = n := by omega
      obtain ⟨φ2, _, i2, s2, _⟩ := hS.out.2.release (by rw [← hbp.out] at *; exact hS.out.1)
      go_wp2
      go_ret
      exact ⟨φ2, ao, co, by rw [recO_len]; rfl, by first | exact i2 | (rw [hbp.out]; exact i2), s2⟩
set_option maxRecDepth 100000 in
set_option maxHeartbeats 2000000 in
theorem Rrecord_any (n : Nat) (hn12 : n ≤ 12) (a : Option Addr) (cap : Nat) (fs : List Fld) (m : Nat) (ae : Option Addr) (ce : Nat) (w : World) (φ : Phi) (hφ : Fz φ w) (s : SlV φ a cap fs) (hn : Hid (fs.length = n)) (nd : Nat) (ad : Option Addr) (cd : Nat) (l : List Giv) (sl : SlV φ ad cd l) (hl : Hid (l.length = nd)) :
    Calls Tryd.prog 46 #[.agg #[.slice a n cap, .slice ae m ce], .slice ad nd cd] w (RecPost (recO fs l n) φ w) := by
  obtain ⟨φ1, le1, i1, k1⟩ := (Inv.start hφ).frz (.cells #[.slice a n cap, .slice ae m ce] 25)
  have S := Lib.hid (s.mono le1)
  have SL := Lib.hid (sl.mono le1)
  have hnd := sl.len
  rw [hl.out] at hnd
  have hSt : Hid (Inv w.heap.size w φ φ1 (w.alloc (.cells #[.slice a n cap, .slice ae m ce] 25)) ∧ Own w.heap.size φ1 (w.alloc (.cells #[.slice a n cap, .slice ae m ce] 25)) 3 none 0 (recO fs l 0)) := Lib.hid ⟨i1, Own.nil _ _ _ _⟩
  have p0 : (w.alloc (.cells #[.slice a n cap, .slice ae m ce] 25)).cell? ⟨w.heap.size, 0, none⟩ = some (.slice a n cap) := box_at 0
  clear i1 le1 k1
  go_enter Tryd.func46, Tryd.ntmps46
  go_wp2
  clear p0
  generalize w.alloc (.cells #[.slice a n cap, .slice ae m ce] 25) = W0 at *
  generalize hbp : w.heap.size = bp at *
  replace hbp := Lib.hid hbp
  go_loopw [5, 13] (fun v i wr => ∃ (k : Nat) (ao : Option Addr) (co : Nat), k ≤ n ∧ v = .slice ao k co ∧ i = .int .i64 k ∧ Hid (Inv bp w φ φ1 wr ∧ Own bp φ1 wr 3 ao co (recO fs l k))) (fun _ i _ => n - (intOf i).toNat)
  case atStart => exact ⟨0, none, 0, Nat.zero_le _, rfl, rfl, hSt⟩
  case round =>
    clear hSt
    obtain ⟨k, ao, co, hk, rfl, rfl, hS⟩ := hrel
    by_cases hlt : k < n
    · obtain ⟨b1, o1, rfl, f1⟩ := S.out.fldD hn hlt
      obtain ⟨a4, c4, s4, f1⟩ := f1 k hlt
      obtain ⟨_, c0, c1, c2⟩ := f1 wr hS.out.1.fz
      have HNX := Lib.hid (recO_succ fs l k)
      have HLN := Lib.hid (recO_len fs l k)
      clear f1
      generalize fs.getD k fld0 = x at *
      obtain ⟨nm, cs, wt⟩ := x
      dsimp only at c0 c1 c2 s4 HNX
      obtain ⟨nc, hnc⟩ : ∃ j, Hid (cs.length = j) := ⟨_, Lib.hid rfl⟩
      rw [hnc.out] at c1
      have hB := Lib.hid (And.intro (hS.out.1.alloc (.cells #[.string nm, .slice a4 nc c4, .int .i64 wt] 92)) (hS.out.2.alloc (.cells #[.string nm, .slice a4 nc c4, .int .i64 wt] 92)))
      have d0 : (wr.alloc (.cells #[.string nm, .slice a4 nc c4, .int .i64 wt] 92)).cell? ⟨wr.heap.size, 0, none⟩ = some (.string nm) := box_at 0
      obtain ⟨v, hv⟩ : ∃ v, Hid (findI l nm = v) := ⟨_, Lib.hid rfl⟩
      obtain ⟨q, hq⟩ : ∃ q, Hid (codeOf l nm = q) := ⟨_, Lib.hid rfl⟩
      have hq2 := hq.out
      unfold codeOf at hq2
      rw [hv.out] at hq2
      rw [hq.out] at HNX
      have HQ := Lib.hid hq2
      have hcs := findI_cases l nm
      rw [hv.out, hl.out] at hcs
      have HCS := Lib.hid hcs
      clear hq2 hcs hS
      go_wp2_with fail
      clear c0 c1 c2 d0
      refine (element_any hB.out.1.fz nm nd ad cd l SL.out hl hv).mono ?_
      rintro e w5 ⟨rfl, hb5⟩
      have hS5 := Lib.hid (And.intro (hB.out.1.callB hb5) (hB.out.2.callB hb5))
      have hin := Lib.hid hS5.out.1
      have hon := Lib.hid hS5.out.2
      clear hb5 hB
      rcases HCS.out with ⟨hv1, _⟩ | ⟨i, hi, hv1, _, _⟩
      · subst hv1
        have hq0 : q = 0 := by rw [← HQ.out, if_neg (by simp)]
        subst hq0
        go_wp2_with (at_builtin; refine wpList_app1 (α := Int) rfl _ _ 32 rfl slI hin.out ao co _ hon.out _ _ (0 : Int) rfl (by rw [HLN.out]; rfl) 1 rfl (by rw [HLN.out]; omega) ?_; intro a5 c5 w6 hi6 ho6 hg6)
        go_roundw
        case rel => exact ⟨k + 1, a5, c5, by omega, by rw [HLN.out], by go_num, by rw [HNX.out]; exact Lib.hid ⟨hi6, ho6⟩⟩
        case measure => (simp [intOf] <;> omega)
      · subst hv1
        obtain ⟨bd, od, rfl, f⟩ := SL.out.givD hl hi
        obtain ⟨ar, cr, as_, cs_, _, _, f⟩ := f i hi
        obtain ⟨_, _, _, e2, e3, _, _⟩ := f w5 hin.out.fz
        have hti : ((i : Int)).toNat = i := by omega
        rw [hti] at HQ
        clear f hti
        generalize l.getD i giv0 = g at *
        obtain ⟨⟨n2, row⟩, kd, nn, sv, set⟩ := g
        dsimp only at e2 e3 HQ
        have hi0 : decide ((i : Int) ≥ 0) = true := by simp
        by_cases h4 : kd = 4
        · have hb : (kd == 4) = true := by simp [h4]
          have hq0 : q = nn := by rw [← HQ.out, if_pos ⟨by omega, h4⟩]
          subst hq0
          clear h4
          go_wp2_with (at_builtin; refine wpList_app1 (α := Int) rfl _ _ 32 rfl slI hin.out ao co _ hon.out _ _ q rfl (by rw [HLN.out]; rfl) 1 rfl (by rw [HLN.out]; omega) ?_; intro a5 c5 w6 hi6 ho6 hg6)
          go_roundw
          case rel => exact ⟨k + 1, a5, c5, by omega, by rw [HLN.out], by go_num, by rw [HNX.out]; exact Lib.hid ⟨hi6, ho6⟩⟩
          case measure => (simp [intOf] <;> omega)
        · have hb : (kd == 4) = false := by simp [h4]
          have hq0 : q = 0 := by rw [← HQ.out, if_neg (fun e => h4 e.2)]
          subst hq0
          clear h4
          go_wp2_with (at_builtin; refine wpList_app1 (α := Int) rfl _ _ 32 rfl slI hin.out ao co _ hon.out _ _ (0 : Int) rfl (by rw [HLN.out]; rfl) 1 rfl (by rw [HLN.out]; omega) ?_; intro a5 c5 w6 hi6 ho6 hg6)
          go_roundw
          case rel => exact ⟨k + 1, a5, c5, by omega, by rw [HLN.out], by go_num, by rw [HNX.out]; exact Lib.hid ⟨hi6, ho6⟩⟩
          case measure => (simp [intOf] <;> omega)
    · obtain rfl : k = n := by omega
      obtain ⟨φ2, _, i2, s2, _⟩ := hS.out.2.release (by rw [← hbp.out] at *; exact hS.out.1)
      go_wp2
      go_ret
      exact ⟨φ2, ao, co, by rw [recO_len]; rfl, by first | exact i2 | (rw [hbp.out]; exact i2), s2⟩
end Go.Proofs.YtkfmadeeobalaaaDoor
