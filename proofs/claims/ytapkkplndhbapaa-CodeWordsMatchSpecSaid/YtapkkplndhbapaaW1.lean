/- Words: the walks of isWordByte, isWord and risingWords, on the program's side. Conditions: none beyond what the claim form gives. -/
import Derived.Test.YtapkkplndhbapaaK6
import Derived.Test.YtapkkplndhbapaaSeen
import Derived.Test.YtapkkplndhbapaaSix
namespace Go.Proofs.Ytapkkplndhbapaa
open Go.RowKit
set_option linter.unusedVariables false
abbrev str0 : ByteArray := ByteArray.empty
def wbB (n : Int) : Bool := (decide (97 ≤ n) && decide (n ≤ 122)) || (decide (48 ≤ n) && decide (n ≤ 57))
/-- The form of a word. -/
def wordP (s : ByteArray) : Prop := (∀ k, k < s.size → wbB (byt s k) = true) ∧ 0 < s.size ∧ s.size ≤ 30
noncomputable def wordB (s : ByteArray) : Bool := @decide (wordP s) (Classical.propDecidable _)
theorem wordB_true {s : ByteArray} (h : wordP s) : wordB s = true := by unfold wordB; exact @decide_eq_true _ (Classical.propDecidable _) h
theorem wordB_false {s : ByteArray} (h : ¬ wordP s) : wordB s = false := by unfold wordB; exact @decide_eq_false _ (Classical.propDecidable _) h
/-- a ≤ b, as strings. -/
def strLe (a b : ByteArray) : Bool := Op.bytesLess a.toList b.toList || (a.toList == b.toList)
noncomputable def wrdBad (l : List ByteArray) (k : Nat) : Int := if wordB (l.getD k str0) = false then 5 else if 0 < k ∧ strLe (l.getD k str0) (l.getD (k - 1) str0) = true then 7 else 0
noncomputable def risF (l : List ByteArray) : Int := scan (wrdBad l) l.length
theorem isWordByte_any (n : Int) (w : World) (h0 : 0 ≤ n) (h1 : n < 256) {b : Bool} (h : wbB n = b) :
    Calls Try.prog 34 #[.int .u8 n] w fun e w' => e = .returned (.bool b) ∧ w = w' := by
  subst h
  go_enter Try.func34, Try.ntmps34
  go_wp2
  all_goals
    go_ret
    exact ⟨ret_bool (by unfold wbB; rw [Bool.eq_iff_iff]; simp; omega), rfl⟩
theorem isWord_any (s : ByteArray) (w : World) (hs : s.size ≤ reachBytes) {b : Bool} (h : wordB s = b) :
    Calls Try.prog 26 #[.string s] w fun e w' => e = .returned (.bool b) ∧ w = w' := by
  subst h
  unfold reachBytes at hs
  go_enter Try.func26, Try.ntmps26
  go_wp2
  go_loop [3] (fun i => ∃ k : Nat, k ≤ s.size ∧ i = .int .i64 k ∧ Hid (∀ i, i < k → wbB (byt s i) = true)) (fun i => s.size - (intOf i).toNat)
  case atStart => exact ⟨0, Nat.zero_le _, rfl, Lib.hid (fun i hi => by omega)⟩
  case round =>
    obtain ⟨k, hk, rfl, hok⟩ := hrel
    by_cases hlt : k < s.size
    · have hb := byt_bd s k
      have hek := Lib.hid (byt_eq s k hlt)
      have hd0 : ((s[k]'hlt).toNat : Int) < 256 := by rw [← hek.out]; omega
      have hd1 : 0 ≤ ((s[k]'hlt).toNat : Int) := by omega
      obtain ⟨o, ho⟩ : ∃ o, Hid (wbB ((s[k]'hlt).toNat : Int) = o) := ⟨_, Lib.hid rfl⟩
      cases o
      · go_wp2_with (go_at_call 34; refine (isWordByte_any _ _ hd1 hd0 ho.out).mono ?_; rintro e w' ⟨rfl, rfl⟩)
        go_ret
        exact ⟨ret_bool (wordB_false (fun h => by have := h.1 k hlt; rw [hek.out, ho.out] at this; cases this)).symm, rfl⟩
      · go_wp2_with (go_at_call 34; refine (isWordByte_any _ _ hd1 hd0 ho.out).mono ?_; rintro e w' ⟨rfl, rfl⟩)
        go_round
        case rel => exact ⟨k + 1, by omega, by go_num, Lib.hid (fun i hi => by
          by_cases e : i = k
          · subst e; rw [hek.out]; exact ho.out
          · exact hok.out i (by omega))⟩
        case measure => (simp [intOf] <;> omega)
    · obtain rfl : k = s.size := by omega
      by_cases hz : s.size = 0
      · have he : s.toList.isEmpty = true := by rw [isEmpty_iff]; simp [hz]
        have he2 : s.toList = [] := List.isEmpty_iff.1 he
        have HZ := Lib.hid hz
        clear hz
        go_wp2
        go_ret
        exact ⟨ret_bool (wordB_false (fun h => by have := h.2.1; have := HZ.out; omega)).symm, rfl⟩
      · have he : s.toList.isEmpty = false := by rw [isEmpty_iff]; simp [hz]
        have HZ := Lib.hid hz
        clear hz
        go_wp2
        go_ret
        refine ⟨ret_bool ?_, rfl⟩
        by_cases h30 : s.size ≤ 30
        · rw [wordB_true ⟨hok.out, by have := HZ.out; omega, h30⟩]; simp; omega
        · rw [wordB_false (fun h => h30 h.2.2)]; simp; omega
set_option maxHeartbeats 1000000 in
theorem risingWords_any (n : Nat) (a : Option Addr) (cap : Nat) (l : List ByteArray) (w : World) (φ : Phi) (hφ : Fz φ w) (s : SlV φ a cap l) (hn : Hid (l.length = n)) (hm : n ≤ 9223372036854775807) (hs : Hid (∀ x ∈ l, StrG x)) :
    Calls Try.prog 25 #[.slice a n cap] w (fun e w' => e = .returned (.int .i64 (risF l)) ∧ w = w') := by
  go_enter Try.func25, Try.ntmps25
  go_wp2
  go_loop [7] (fun i => ∃ k : Nat, k ≤ n ∧ i = .int .i64 k ∧ Hid (∀ i, i < k → wrdBad l i = 0)) (fun i => n - (intOf i).toNat)
  case atStart => exact ⟨0, Nat.zero_le _, rfl, none_yet _⟩
  case round =>
    obtain ⟨k, hk, rfl, hok⟩ := hrel
    by_cases hlt : k < n
    · obtain ⟨b, off, rfl, f⟩ := s.strsD hn hlt
      obtain ⟨hb, c1⟩ := f k hlt w hφ
      have hp : 0 < k → w.cell? ⟨b, off + (k - 1), none⟩ = some (.string (l.getD (k - 1) str0)) := fun h => (f (k - 1) (by omega) w hφ).2
      have hsz : (l.getD k str0).size ≤ reachBytes := by rw [getD_elem0 _ _ _ (by rw [hn.out]; exact hlt)]; exact hs.out _ (List.getElem_mem _)
      have hbad : Hid (wrdBad l k = _) := Lib.hid (wrdBad.eq_1 l k)
      have HP := Lib.hid hp
      clear f hp
      generalize l.getD k str0 = x at *
      generalize l.getD (k - 1) str0 = p at *
      obtain ⟨q, hq⟩ : ∃ q, Hid (wordB x = q) := ⟨_, Lib.hid rfl⟩
      cases q
      · go_wp2_with (go_at_call 26; refine (isWord_any _ _ hsz hq.out).mono ?_; rintro e w' ⟨rfl, rfl⟩)
        go_ret
        have e5 : wrdBad l k = 5 := by rw [hbad.out, if_pos hq.out]
        exact ⟨ret_int (by rw [risF, hn.out, scan_stop hok.out hlt (by rw [e5]; decide), e5]), rfl⟩
      have e1 : Hid (¬ wordB x = false) := Lib.hid (by rw [hq.out]; simp)
      by_cases h3 : 0 < k
      · have hpp := HP.out h3
        have h3i : (0 : Int) < k := by omega
        have hix : 0 ≤ (k : Int) - 1 := by omega
        have hix2 : (k : Int) - 1 < n := by omega
        have hw1 : IntKind.i64.wrap ((k : Int) - 1) = k - 1 := IntWalk.i64_in _ (by omega)
        have hto : ((k : Int) - 1).toNat = k - 1 := by omega
        obtain ⟨o, ho⟩ : ∃ o, Hid (strLe x p = o) := ⟨_, Lib.hid rfl⟩
        have ho2 : (Op.bytesLess x.toList p.toList || (x.toList == p.toList)) = o := ho.out
        cases o
        · go_wp2_with (go_at_call 26; refine (isWord_any _ _ hsz hq.out).mono ?_; rintro e w' ⟨rfl, rfl⟩)
          go_round
          case rel => exact ⟨k + 1, by omega, by go_num, next_ok hok (by rw [hbad.out, if_neg e1.out, if_neg (fun h => by rw [ho.out] at h; exact absurd h.2 (by simp))])⟩
          case measure => (simp [intOf] <;> omega)
        · go_wp2_with (go_at_call 26; refine (isWord_any _ _ hsz hq.out).mono ?_; rintro e w' ⟨rfl, rfl⟩)
          go_ret
          have e7 : wrdBad l k = 7 := by rw [hbad.out, if_neg e1.out, if_pos ⟨h3, ho.out⟩]
          exact ⟨ret_int (by rw [risF, hn.out, scan_stop hok.out hlt (by rw [e7]; decide), e7]), rfl⟩
      · have h3i : decide ((0 : Int) < k) = false := decide_eq_false (by omega)
        go_wp2_with (go_at_call 26; refine (isWord_any _ _ hsz hq.out).mono ?_; rintro e w' ⟨rfl, rfl⟩)
        go_round
        case rel => exact ⟨k + 1, by omega, by go_num, next_ok hok (by rw [hbad.out, if_neg e1.out, if_neg (fun h => h3 h.1)])⟩
        case measure => (simp [intOf] <;> omega)
    · obtain rfl : k = n := by omega
      go_wp2
      go_ret
      exact ⟨ret_int (by rw [risF, hn.out, scan_zero _ _ hok.out]), rfl⟩
end Go.Proofs.Ytapkkplndhbapaa
