/- The walks of IndexFunc with find's closure, of find, element. Conditions: none beyond what the claim form gives. -/
import Derived.Test.YtkfmadeeobalaaaDoorD8
namespace Go.Proofs.YtkfmadeeobalaaaDoor
open Go.RowKit
set_option linter.unusedVariables false
theorem IndexGiv_any {w : World} {φ : Phi} (hφ : Fz φ w) {b : Nat} {nm : ByteArray} (hk : φ b = some (.cells #[.string nm] 9)) (n : Nat) (a : Option Addr) (cap : Nat) (l : List Giv) (sl : SlV φ a cap l) (hn : Hid (l.length = n)) {v : Int} (hv : Hid (findI l nm = v)) :
    Calls Tryd.prog 93 #[.slice a n cap, .func (.func 94) #[] #[.pointer (some ⟨b, 0, none⟩)]] w (fun e w' => e = .returned (.int .i64 v) ∧ Below w.heap.size w w') := by
  have hm := sl.len
  rw [hn.out] at hm
  go_enter Tryd.func93, Tryd.ntmps93
  go_wp2
  go_loopw [8] (fun i wr => ∃ k : Nat, k ≤ n ∧ i = .int .i64 k ∧ Hid (∀ i, i < k → atB nm (l.getD i giv0) = false) ∧ Hid (Below w.heap.size w wr)) (fun i _ => n - (intOf i).toNat)
  case atStart => exact ⟨0, Nat.zero_le _, rfl, Lib.hid (fun i hi => by omega), Lib.hid (Below.refl _ _)⟩
  case round =>
    obtain ⟨k, hk2, rfl, hno, hB⟩ := hrel
    by_cases hlt : k < n
    · obtain ⟨b1, o1, rfl, f⟩ := sl.givD hn hlt
      obtain ⟨ar, cr, as_, cs_, _, _, f⟩ := f k hlt
      obtain ⟨_, c0, c1, c2, c3, c4, c5⟩ := f wr (hφ.below hB.out)
      have HY : Hid (atB nm (l.getD k giv0) = true → v = k) := Lib.hid (fun h => by rw [← hv.out]; exact findI_some hn.out hlt hno.out h)
      have HN : Hid (atB nm (l.getD k giv0) = false → ∀ i, i < k + 1 → atB nm (l.getD i giv0) = false) := Lib.hid (fun h i hi => by
        by_cases e : i = k
        · subst e; exact h
        · exact hno.out i (by omega))
      clear f
      generalize l.getD k giv0 = g at *
      obtain ⟨⟨n2, row⟩, kd, nn, sv, set⟩ := g
      dsimp only at c0 c1 c2 c3 c4 c5
      obtain ⟨nr, hnr⟩ : ∃ j, Hid (row.length = j) := ⟨_, Lib.hid rfl⟩
      rw [hnr.out] at c1
      obtain ⟨o, ho⟩ : ∃ o, Hid ((decide (n2 = nm) && decide (nr = 0)) = o) := ⟨_, Lib.hid rfl⟩
      have hat : atB nm ((n2, row), kd, nn, sv, set) = o := by rw [← ho.out, ← hnr.out]; rfl
      rw [hat] at HY HN
      clear hat
      cases o with
      | true =>
        have H := Lib.hid (HY.out rfl)
        go_wp2_with (go_at_call 94; refine (find1_any (hφ.below hB.out) hk n2 ar nr cr _ _ _ _ ho).mono ?_; rintro e w5 ⟨rfl, hb5⟩)
        go_ret
        exact ⟨ret_int H.out.symm, hB.out.trans (hb5.mono hB.out.size)⟩
      | false =>
        have H := Lib.hid (HN.out rfl)
        go_wp2_with (go_at_call 94; refine (find1_any (hφ.below hB.out) hk n2 ar nr cr _ _ _ _ ho).mono ?_; rintro e w5 ⟨rfl, hb5⟩)
        go_roundw
        case rel => exact ⟨k + 1, by omega, by go_num, H, Lib.hid (hB.out.trans (hb5.mono hB.out.size))⟩
        case measure => (simp [intOf] <;> omega)
    · obtain rfl : k = n := by omega
      have H : Hid (v = -1) := Lib.hid (by rw [← hv.out]; exact findI_none hn.out hno.out)
      go_wp2
      go_ret
      exact ⟨ret_int H.out.symm, hB.out⟩
theorem find_any {w : World} {φ : Phi} (hφ : Fz φ w) (nm : ByteArray) (n : Nat) (a : Option Addr) (cap : Nat) (l : List Giv) (sl : SlV φ a cap l) (hn : Hid (l.length = n)) {v : Int} (hv : Hid (findI l nm = v)) :
    Calls Tryd.prog 48 #[.slice a n cap, .string nm] w (fun e w' => e = .returned (.int .i64 v) ∧ Below w.heap.size w w') := by
  obtain ⟨φ1, le1, i1, k1⟩ := (Inv.start hφ).frz (.cells #[.string nm] 9)
  have C := Lib.hid (IndexGiv_any i1.fz k1 n a cap l (sl.mono le1) hn hv)
  have HB := Lib.hid i1.bel
  clear i1 k1 le1
  go_enter Tryd.func48, Tryd.ntmps48
  go_wp2_with fail
  refine C.out.mono ?_
  rintro e w2 ⟨rfl, hb2⟩
  go_wp2
  go_ret
  exact ⟨rfl, HB.out.trans (hb2.mono HB.out.size)⟩
set_option maxHeartbeats 1000000 in
theorem element_any {w : World} {φ : Phi} (hφ : Fz φ w) (nm : ByteArray) (n : Nat) (a : Option Addr) (cap : Nat) (l : List Giv) (sl : SlV φ a cap l) (hn : Hid (l.length = n)) {v : Int} (hv : Hid (findI l nm = v)) :
    Calls Tryd.prog 51 #[.slice a n cap, .string nm] w (fun e w' => e = .returned (.int .i64 v) ∧ Below w.heap.size w w') := by
  have hm := sl.len
  rw [hn.out] at hm
  go_enter Tryd.func51, Tryd.ntmps51
  go_wp2
  go_loopw [9] (fun i wr => ∃ k : Nat, k ≤ n ∧ i = .int .i64 k ∧ Hid (∀ i, i < k → atB nm (l.getD i giv0) = false) ∧ Hid (Below w.heap.size w wr)) (fun i _ => n - (intOf i).toNat)
  case atStart => exact ⟨0, Nat.zero_le _, rfl, Lib.hid (fun i hi => by omega), Lib.hid (Below.refl _ _)⟩
  case round =>
    obtain ⟨k, hk2, rfl, hno, hB⟩ := hrel
    by_cases hlt : k < n
    · obtain ⟨b1, o1, rfl, f⟩ := sl.givD hn hlt
      obtain ⟨ar, cr, as_, cs_, _, _, f⟩ := f k hlt
      obtain ⟨_, c0, c1, c2, c3, c4, c5⟩ := f wr (hφ.below hB.out)
      have HY : Hid (atB nm (l.getD k giv0) = true → v = k) := Lib.hid (fun h => by rw [← hv.out]; exact findI_some hn.out hlt hno.out h)
      have HN : Hid (atB nm (l.getD k giv0) = false → ∀ i, i < k + 1 → atB nm (l.getD i giv0) = false) := Lib.hid (fun h i hi => by
        by_cases e : i = k
        · subst e; exact h
        · exact hno.out i (by omega))
      clear f
      generalize l.getD k giv0 = g at *
      obtain ⟨⟨n2, row⟩, kd, nn, sv, set⟩ := g
      dsimp only at c0 c1 c2 c3 c4 c5
      obtain ⟨nr, hnr⟩ : ∃ j, Hid (row.length = j) := ⟨_, Lib.hid rfl⟩
      rw [hnr.out] at c1
      obtain ⟨o, ho⟩ : ∃ o, Hid ((decide (n2 = nm) && decide (nr = 0)) = o) := ⟨_, Lib.hid rfl⟩
      have hat : atB nm ((n2, row), kd, nn, sv, set) = o := by rw [← ho.out, ← hnr.out]; rfl
      rw [hat] at HY HN
      have HB2 := Lib.hid (hB.out.alloc hB.out.size (.cells #[.string n2, .slice ar nr cr, .int .i64 kd, .int .i64 nn, .string sv, .slice as_ set.length cs_] 54))
      clear hat
      by_cases hnn : n2 = nm
      · have hs := str_eq_t hnn
        by_cases hz : nr = 0
        · have hb : ((nr : Int) == 0) = true := by simp [hz]
          have H := Lib.hid (HY.out (by rw [← ho.out]; simp [hnn, hz]))
          clear hnn hz
          go_wp2
          go_ret
          exact ⟨ret_int H.out.symm, HB2.out⟩
        · have hb : ((nr : Int) == 0) = false := by simp; omega
          have H := Lib.hid (HN.out (by rw [← ho.out]; simp [hz]))
          clear hnn hz
          go_wp2
          go_roundw
          case rel => exact ⟨k + 1, by omega, by go_num, H, HB2⟩
          case measure => (simp [intOf] <;> omega)
      · have hs := str_eq_f hnn
        have H := Lib.hid (HN.out (by rw [← ho.out]; simp [hnn]))
        clear hnn
        go_wp2
        go_roundw
        case rel => exact ⟨k + 1, by omega, by go_num, H, HB2⟩
        case measure => (simp [intOf] <;> omega)
    · obtain rfl : k = n := by omega
      have H : Hid (v = -1) := Lib.hid (by rw [← hv.out]; exact findI_none hn.out hno.out)
      go_wp2
      go_ret
      exact ⟨ret_int H.out.symm, hB.out⟩
end Go.Proofs.YtkfmadeeobalaaaDoor
