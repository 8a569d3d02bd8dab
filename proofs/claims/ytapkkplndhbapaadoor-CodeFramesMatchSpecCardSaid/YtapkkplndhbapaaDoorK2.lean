/- Frames of codes: walks of the checks of nodes, on the program's side. Conditions: none beyond what the claim form gives. -/
import Derived.Test.YtapkkplndhbapaaDoorK1
namespace Go.Proofs.YtapkkplndhbapaaDoor
open Go.RowKit
set_option linter.unusedVariables false

abbrev Nod := Int × Int × ByteArray
abbrev nod0 : Nod := (0, 0, ByteArray.empty)
theorem SlV.nodesD {φ : Phi} {a : Option Addr} {cap : Nat} {xs : List Nod} (h : SlV φ a cap xs) {k n : Nat} (hn : Hid (xs.length = n)) (hk : k < n) :
    ∃ b off, a = some ⟨b, off, none⟩ ∧ ∀ k, k < n → ∀ w, Fz φ w → b < w.heap.size ∧ w.cell? ⟨b, off + k * 3, none⟩ = some (.int .i64 (xs.getD k nod0).1) ∧ w.cell? ⟨b, off + k * 3 + 1, none⟩ = some (.int .i64 (xs.getD k nod0).2.1) ∧ w.cell? ⟨b, off + k * 3 + 2, none⟩ = some (.string (xs.getD k nod0).2.2) := by
  obtain ⟨b, off, ha, hc⟩ := h.at_ (by intro e; subst e; have := hn.out; simp at this; omega)
  refine ⟨b, off, ha, fun k hk w hw => ?_⟩
  have hk' : k < xs.length := by rw [hn.out]; exact hk
  obtain ⟨cs, hr, hj⟩ := hc k hk'
  obtain ⟨c, d, rfl, h1, c2, d2, rfl, h2, h3⟩ := hr
  have h1' : c = [.int .i64 xs[k].1] := h1
  have h2' : c2 = [.int .i64 xs[k].2.1] := h2
  have h3' : d2 = [.string xs[k].2.2] := h3
  subst h1'; subst h2'; subst h3'
  have j0 := hj 0 (by simp)
  have j1 := hj 1 (by simp)
  have j2 := hj 2 (by simp)
  simp [Rep.size] at j0 j1 j2
  rw [getD_elem0 _ _ _ hk']
  exact ⟨hw.lt j0, hw.cell j0, hw.cell j1, hw.cell j2⟩

abbrev cod (l : List Nod) (k : Nat) : Int := (l.getD k nod0).1
abbrev par0 (l : List Nod) (k : Nat) : Int := (l.getD k nod0).2.1
abbrev tit (l : List Nod) (k : Nat) : ByteArray := (l.getD k nod0).2.2
noncomputable def nodeBad (l : List Nod) (k : Nat) : Int :=
  if outB ((l.getD k nod0).1) 1 999 = true then 1
  else if 0 < k ∧ (l.getD k nod0).1 ≤ (l.getD (k - 1) nod0).1 then 7
  else if 60 < ((l.getD k nod0).2.2).size then 2
  else if titleB ((l.getD k nod0).2.2) = false then 3 else 0
noncomputable def nodesF (l : List Nod) : Int := if l.length = 0 then 9 else if 600 < l.length then 2 else scan (nodeBad l) l.length
theorem nodesF_at {l : List Nod} {n k : Nat} (hn : Hid (l.length = n)) (h0 : 0 < n) (hl : n ≤ 600) (hk : k < n) (h : Hid (∀ i, i < k → nodeBad l i = 0)) {c : Int} (hc : nodeBad l k = c) (hc0 : c ≠ 0) : nodesF l = c := by
  rw [nodesF, hn.out, if_neg (by omega), if_neg (by omega), scan_stop h.out hk (by rw [hc]; exact hc0), hc]
theorem nodesF_ok {l : List Nod} {n : Nat} (hn : Hid (l.length = n)) (h0 : 0 < n) (hl : n ≤ 600) (h : Hid (∀ i, i < n → nodeBad l i = 0)) : nodesF l = 0 := by
  rw [nodesF, hn.out, if_neg (by omega), if_neg (by omega), scan_zero _ _ h.out]
theorem isTitle_t (s : ByteArray) (w : World) (hs : s.size ≤ 1000000000) (h : titleB s = true) :
    Calls Tryd.prog 54 #[.string s] w fun e w' => e = .returned (.bool true) ∧ w = w' := by rw [← h]; exact isTitle_any s w hs
theorem isTitle_f (s : ByteArray) (w : World) (hs : s.size ≤ 1000000000) (h : titleB s = false) :
    Calls Tryd.prog 54 #[.string s] w fun e w' => e = .returned (.bool false) ∧ w = w' := by rw [← h]; exact isTitle_any s w hs

set_option maxHeartbeats 1000000 in
theorem nodesFault_any (n : Nat) (a : Option Addr) (cap : Nat) (l : List Nod) (w : World) (φ : Phi) (hφ : Fz φ w) (s : SlV φ a cap l) (hn : Hid (l.length = n)) (hm : n ≤ 9223372036854775807) :
    Calls Tryd.prog 43 #[.slice a n cap] w (IntB (nodesF l) w) := by
  by_cases z : n = 0
  · have Z := Lib.hid z
    have zb : ((n : Int) == 0) = true := by simp [z]
    clear z
    go_enter Tryd.func43, Tryd.ntmps43
    go_wp2
    go_ret
    exact ⟨ret_int (by rw [nodesF, hn.out, if_pos Z.out]), Below.refl _ _⟩
  have zb : ((n : Int) == 0) = false := by simp; omega
  by_cases hl : 600 < n
  · go_enter Tryd.func43, Tryd.ntmps43
    go_wp2
    go_ret
    exact ⟨ret_int (by rw [nodesF, hn.out, if_neg z, if_pos hl]), Below.refl _ _⟩
  have h0 : 0 < n := by omega
  have z := Lib.hid z
  go_enter Tryd.func43, Tryd.ntmps43
  go_wp2
  clear zb
  go_loopw [13] (fun i wr => ∃ k : Nat, k ≤ n ∧ i = .int .i64 k ∧ Hid (∀ i, i < k → nodeBad l i = 0) ∧ Below w.heap.size w wr) (fun i _ => n - (intOf i).toNat)
  case atStart => exact ⟨0, Nat.zero_le _, rfl, none_yet _, Below.refl _ _⟩
  case round =>
    obtain ⟨k, hk, rfl, hok, hbel⟩ := hrel
    by_cases hlt : k < n
    · obtain ⟨b, off, rfl, f⟩ := s.nodesD hn hlt
      have hf := hφ.below hbel
      obtain ⟨hb, c1, c2, c3⟩ := f k hlt wr hf
      have hp : 0 < k → wr.cell? ⟨b, off + (k - 1) * 3, none⟩ = some (.int .i64 (l.getD (k - 1) nod0).1) := fun h => (f (k - 1) (by omega) wr hf).2.1
      have hbad : Hid (nodeBad l k = _) := Lib.hid (nodeBad.eq_1 l k)
      have HP := Lib.hid hp
      clear f hp
      generalize (l.getD k nod0).1 = m at *
      generalize (l.getD k nod0).2.1 = pa at *
      generalize (l.getD k nod0).2.2 = ti at *
      generalize (l.getD (k - 1) nod0).1 = p at *
      have hbel2 : ∀ o, Below w.heap.size w (wr.alloc o) := fun o => hbel.alloc hbel.size o
      by_cases h1 : outB m 1 999 = true
      · have H1 := Lib.hid h1
        clear h1
        go_wp2_with fail
        refine (outside_t _ _ _ _ H1.out).mono ?_
        rintro e w' ⟨rfl, rfl⟩
        go_wp2
        go_ret
        exact ⟨ret_int (nodesF_at hn h0 (by omega) hlt hok (by rw [hbad.out, if_pos H1.out]) (by decide)).symm, hbel2 _⟩
      have H1 := Lib.hid (Bool.not_eq_true _ ▸ h1 : outB m 1 999 = false)
      clear h1
      go_wp2_with fail
      refine (outside_f _ _ _ _ H1.out).mono ?_
      rintro e w' ⟨rfl, rfl⟩
      have e1 : Hid (¬ outB m 1 999 = true) := Lib.hid (by rw [H1.out]; simp)
      by_cases h3 : 0 < k
      · have hpp := HP.out h3
        have h3i : (0 : Int) < k := by omega
        have hix : 0 ≤ (k : Int) - 1 := by omega
        have hix2 : (k : Int) - 1 < n := by omega
        have hw1 : IntKind.i64.wrap ((k : Int) - 1) = k - 1 := IntWalk.i64_in _ (by omega)
        have hto : ((k : Int) - 1).toNat = k - 1 := by omega
        by_cases h4 : m ≤ p
        · go_wp2_with fail
          go_quiet (fail)
          clear hw1 hto
          go_wp2
          go_ret
          exact ⟨ret_int (nodesF_at hn h0 (by omega) hlt hok (by rw [hbad.out, if_neg e1.out, if_pos ⟨h3, h4⟩]) (by decide)).symm, bdrewN (hbel2 _) _⟩
        have e2 : Hid (¬ (0 < k ∧ m ≤ p)) := Lib.hid (fun h => h4 h.2)
        go_wp2_with fail
        go_quiet (fail)
        clear hw1 hto
        by_cases h5 : 60 < ti.size
        · go_wp2
          go_ret
          exact ⟨ret_int (nodesF_at hn h0 (by omega) hlt hok (by rw [hbad.out, if_neg e1.out, if_neg e2.out, if_pos h5]) (by decide)).symm, bdrewN (hbel2 _) _⟩
        by_cases h6 : titleB ti = true
        · have H6 := Lib.hid h6
          clear h6
          go_wp2_with fail
          refine (isTitle_t _ _ (by omega) H6.out).mono ?_
          rintro e w' ⟨rfl, rfl⟩
          go_wp2
          go_roundw
          case rel => exact ⟨k + 1, by omega, by go_num, next_ok hok (by rw [hbad.out, if_neg e1.out, if_neg e2.out, if_neg h5, if_neg (by rw [H6.out]; simp)]), bdrewN (hbel2 _) _⟩
          case measure => simp [intOf]; omega
        · have H6 := Lib.hid (Bool.not_eq_true _ ▸ h6 : titleB ti = false)
          clear h6
          go_wp2_with fail
          refine (isTitle_f _ _ (by omega) H6.out).mono ?_
          rintro e w' ⟨rfl, rfl⟩
          go_wp2
          go_ret
          exact ⟨ret_int (nodesF_at hn h0 (by omega) hlt hok (by rw [hbad.out, if_neg e1.out, if_neg e2.out, if_neg h5, if_pos H6.out]) (by decide)).symm, bdrewN (hbel2 _) _⟩
      · have h3i : decide ((0 : Int) < k) = false := decide_eq_false (by omega)
        have e2 : Hid (¬ (0 < k ∧ m ≤ p)) := Lib.hid (fun h => h3 h.1)
        go_wp2_with fail
        go_quiet (fail)
        by_cases h5 : 60 < ti.size
        · go_wp2
          go_ret
          exact ⟨ret_int (nodesF_at hn h0 (by omega) hlt hok (by rw [hbad.out, if_neg e1.out, if_neg e2.out, if_pos h5]) (by decide)).symm, bdrewN (hbel2 _) _⟩
        by_cases h6 : titleB ti = true
        · have H6 := Lib.hid h6
          clear h6
          go_wp2_with fail
          refine (isTitle_t _ _ (by omega) H6.out).mono ?_
          rintro e w' ⟨rfl, rfl⟩
          go_wp2
          go_roundw
          case rel => exact ⟨k + 1, by omega, by go_num, next_ok hok (by rw [hbad.out, if_neg e1.out, if_neg e2.out, if_neg h5, if_neg (by rw [H6.out]; simp)]), bdrewN (hbel2 _) _⟩
          case measure => simp [intOf]; omega
        · have H6 := Lib.hid (Bool.not_eq_true _ ▸ h6 : titleB ti = false)
          clear h6
          go_wp2_with fail
          refine (isTitle_f _ _ (by omega) H6.out).mono ?_
          rintro e w' ⟨rfl, rfl⟩
          go_wp2
          go_ret
          exact ⟨ret_int (nodesF_at hn h0 (by omega) hlt hok (by rw [hbad.out, if_neg e1.out, if_neg e2.out, if_neg h5, if_pos H6.out]) (by decide)).symm, bdrewN (hbel2 _) _⟩
    · obtain rfl : k = n := by omega
      go_wp2
      go_ret
      exact ⟨ret_int (nodesF_ok hn h0 (by omega) hok).symm, hbel⟩
end Go.Proofs.YtapkkplndhbapaaDoor
