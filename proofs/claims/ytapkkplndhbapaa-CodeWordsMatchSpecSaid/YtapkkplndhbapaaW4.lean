/- Endings: the plain law, and the walks of HasSuffix, CutSuffix and ended. Conditions: none beyond what the claim form gives. -/
import Derived.Test.YtapkkplndhbapaaW2
namespace Go.Proofs.Ytapkkplndhbapaa
open Go.RowKit
set_option linter.unusedVariables false
theorem ret_str {a b : ByteArray} (h : a = b) : Ending.returned (.string a) = .returned (.string b) := by rw [h]
abbrev Endg := ByteArray × ByteArray
abbrev end0 : Endg := (ByteArray.empty, ByteArray.empty)
theorem SlV.endD {φ : Phi} {a : Option Addr} {cap : Nat} {xs : List Endg} (h : SlV φ a cap xs) {k n : Nat} (hn : Hid (xs.length = n)) (hk : k < n) :
    ∃ b off, a = some ⟨b, off, none⟩ ∧ ∀ k, k < n → ∀ w, Fz φ w → b < w.heap.size ∧ w.cell? ⟨b, off + k * 2, none⟩ = some (.string (xs.getD k end0).1) ∧ w.cell? ⟨b, off + k * 2 + 1, none⟩ = some (.string (xs.getD k end0).2) := by
  obtain ⟨b, off, ha, hc⟩ := h.cellsD end0 hn hk
  refine ⟨b, off, ha, fun k hk w hw => ?_⟩
  obtain ⟨cs, ⟨c, d, rfl, h1, h2⟩, hj⟩ := hc k hk
  cases h1; cases h2
  have j0 := hj 0 (by simp)
  have j1 := hj 1 (by simp)
  simp [Rep.size] at j0 j1
  exact ⟨hw.lt j0, hw.cell j0, hw.cell j1⟩
def sufB (s f : ByteArray) : Bool := decide (f.size ≤ s.size) && ((s.extract (s.size - f.size) s.size).toList == f.toList)
theorem sufB_size {s f : ByteArray} (h : sufB s f = true) : f.size ≤ s.size := by unfold sufB at h; simp at h; exact h.1
/-- An ending fits a word. -/
def fitB (s : ByteArray) (x : Endg) : Bool := sufB s x.1 && decide (3 ≤ s.size - x.1.size)
def endF (ends : List Endg) (s : ByteArray) : ByteArray := match ends.find? (fitB s) with | some x => s.extract 0 (s.size - x.1.size) ++ x.2 | none => s
theorem endF_none {ends : List Endg} {s : ByteArray} {n : Nat} (hn : Hid (ends.length = n)) (h : Hid (∀ i, i < n → fitB s (ends.getD i end0) = false)) : endF ends s = s := by
  have : ends.find? (fitB s) = none := by
    rw [List.find?_eq_none]
    intro x hx
    obtain ⟨i, hi, rfl⟩ := List.getElem_of_mem hx
    have := h.out i (by rw [← hn.out]; exact hi)
    rw [getD_elem0 _ _ _ hi] at this
    simp [this]
  unfold endF; rw [this]
theorem endF_at {ends : List Endg} {s : ByteArray} {n k : Nat} (hn : Hid (ends.length = n)) (hk : k < n) (h : Hid (∀ i, i < k → fitB s (ends.getD i end0) = false)) (hf : fitB s (ends.getD k end0) = true) : endF ends s = s.extract 0 (s.size - (ends.getD k end0).1.size) ++ (ends.getD k end0).2 := by
  have hk' : k < ends.length := by rw [hn.out]; exact hk
  have : ends.find? (fitB s) = some (ends.getD k end0) := by
    rw [List.find?_eq_some_iff_getElem]
    refine ⟨hf, k, hk', by rw [getD_elem0 _ _ _ hk'], fun j hj => ?_⟩
    have := h.out j hj
    rw [getD_elem0 _ _ _ (by omega)] at this
    simp [this]
  unfold endF; rw [this]
theorem endF_bd {ends : List Endg} {s : ByteArray} {M : Nat} (h : ∀ x ∈ ends, x.2.size ≤ M) : (endF ends s).size ≤ s.size + M := by
  unfold endF
  split
  · next x hx =>
    have := h x (List.mem_of_find?_eq_some hx)
    rw [ByteArray.size_append, ByteArray.size_extract]
    omega
  · omega
theorem next_fit {ends : List Endg} {s : ByteArray} {k : Nat} (h : Hid (∀ i, i < k → fitB s (ends.getD i end0) = false)) (hk : fitB s (ends.getD k end0) = false) : Hid (∀ i, i < k + 1 → fitB s (ends.getD i end0) = false) := by
  refine Lib.hid fun i hi => ?_
  by_cases e : i = k
  · subst e; exact hk
  · exact h.out i (by omega)
theorem LHasSuffix_any (s p : ByteArray) (w : World) (hs : s.size ≤ 9223372036854775807) (hp : p.size ≤ 9223372036854775807) {b : Bool} (hb : Hid (sufB s p = b)) :
    Calls Try.prog 37 #[.string s, .string p] w fun e w' => e = .returned (.bool b) ∧ w = w' := by
  rw [← hb.out]
  by_cases h : p.size ≤ s.size
  · have hlo : ((s.size : Int) - (p.size : Int) + 9223372036854775808) % 18446744073709551616 - 9223372036854775808 = ((s.size - p.size : Nat) : Int) := by omega
    go_enter Try.func37, Try.ntmps37
    go_wp2
    go_ret
    exact ⟨ret_bool (by unfold sufB; simp [h]), rfl⟩
  · go_enter Try.func37, Try.ntmps37
    go_wp2
    go_ret
    exact ⟨ret_bool (by unfold sufB; simp [h]), rfl⟩
theorem CutSuffix_any (s p : ByteArray) (w : World) (hs : s.size ≤ 9223372036854775807) (hp : p.size ≤ 9223372036854775807) {b : Bool} (hb : Hid (sufB s p = b)) {t : ByteArray} (ht : Hid ((if b then s.extract 0 (s.size - p.size) else s) = t)) :
    Calls Try.prog 36 #[.string s, .string p] w fun e w' => e = .returned (.tuple #[.string t, .bool b]) ∧ w = w' := by
  have key : Calls Try.prog 41 #[.string s, .string p] w fun e w' => e = .returned (.tuple #[.string t, .bool b]) ∧ w = w' := by
    cases b
    · go_enter Try.func41, Try.ntmps41
      go_wp2_with (go_at_call 37; refine (LHasSuffix_any _ _ _ hs hp hb).mono ?_; rintro e w' ⟨rfl, rfl⟩)
      go_ret2
      exact ⟨by rw [← ht.out]; rfl, rfl⟩
    · have h := sufB_size hb.out
      go_enter Try.func41, Try.ntmps41
      go_wp2_with (go_at_call 37; refine (LHasSuffix_any _ _ _ hs hp hb).mono ?_; rintro e w' ⟨rfl, rfl⟩)
      go_ret2
      exact ⟨by rw [← ht.out]; rfl, rfl⟩
  go_enter Try.func36, Try.ntmps36
  go_wp2_with (go_at_call 41; refine key.mono ?_; rintro e w' ⟨rfl, rfl⟩)
  go_ret2
  exact ⟨rfl, rfl⟩
theorem HasSuffix_any (s p : ByteArray) (w : World) (hs : s.size ≤ 9223372036854775807) (hp : p.size ≤ 9223372036854775807) {b : Bool} (hb : Hid (sufB s p = b)) :
    Calls Try.prog 23 #[.string s, .string p] w fun e w' => e = .returned (.bool b) ∧ w = w' := by
  go_enter Try.func23, Try.ntmps23
  go_wp2_with (go_at_call 37; refine (LHasSuffix_any _ _ _ hs hp hb).mono ?_; rintro e w' ⟨rfl, rfl⟩)
  go_ret
  exact ⟨rfl, rfl⟩
set_option maxHeartbeats 1000000 in
theorem ended_any {bm : Nat} {cs : Array Value} {n : Nat} {a : Option Addr} {c : Nat} {ends : List Endg} {w : World} {φ : Phi} (hφ : Fz φ w) (hB : Hid (Blk w bm cs 59)) (hc : Hid (cs[2]? = some (.slice a n c))) (s : SlV φ a c ends) (hn : Hid (ends.length = n)) (hm : n ≤ 9223372036854775807) (hg : Hid (∀ x ∈ ends, StrG x.1 ∧ StrG x.2)) (x : ByteArray) (hx : x.size ≤ 2000) {t : ByteArray} (ht : Hid (endF ends x = t)) :
    Calls Try.prog 21 #[.pointer (some ⟨bm, 0, none⟩), .string x] w fun e w' => e = .returned (.string t) ∧ Below w.heap.size w w' := by
  have c0 : w.cell? ⟨bm, 2, none⟩ = some (.slice a n c) := (hB.out.cell 2).trans hc.out
  go_enter Try.func21, Try.ntmps21
  go_wp2
  clear c0
  go_loopw [15] (fun i wr => ∃ k : Nat, k ≤ n ∧ i = .int .i64 k ∧ Hid (∀ i, i < k → fitB x (ends.getD i end0) = false) ∧ Hid (Below w.heap.size w wr)) (fun i _ => n - (intOf i).toNat)
  case atStart => exact ⟨0, Nat.zero_le _, rfl, Lib.hid (fun i hi => by omega), Lib.hid (Below.refl _ _)⟩
  case round =>
    obtain ⟨k, hk, rfl, hok, hb⟩ := hrel
    by_cases hlt : k < n
    · obtain ⟨b, off, rfl, f⟩ := s.endD hn hlt
      obtain ⟨hbl, c1, c2⟩ := f k hlt wr (hφ.below hb.out)
      have hmem : ends.getD k end0 ∈ ends := by rw [getD_elem0 _ _ _ (by rw [hn.out]; exact hlt)]; exact List.getElem_mem _
      have hgk := hg.out _ hmem
      have g1 : (ends.getD k end0).1.size ≤ 140737488351232 := hgk.1
      have g2 : (ends.getD k end0).2.size ≤ 140737488351232 := hgk.2
      have hfit : Hid (fitB x (ends.getD k end0) = (sufB x (ends.getD k end0).1 && decide (3 ≤ x.size - (ends.getD k end0).1.size))) := Lib.hid rfl
      have hat : Hid (fitB x (ends.getD k end0) = true → endF ends x = x.extract 0 (x.size - (ends.getD k end0).1.size) ++ (ends.getD k end0).2) := Lib.hid (fun h => endF_at hn hlt hok h)
      have hB2 : Hid (∀ o, Below w.heap.size w (wr.alloc o)) := Lib.hid (fun o => hb.out.alloc hb.out.size o)
      clear f hmem hgk
      generalize (ends.getD k end0).1 = y1 at *
      generalize (ends.getD k end0).2 = y2 at *
      obtain ⟨q, hq⟩ : ∃ q, Hid (sufB x y1 = q) := ⟨_, Lib.hid rfl⟩
      cases q
      · go_wp2_with (go_at_call 36; refine (CutSuffix_any x y1 _ (by omega) (by omega) hq (t := x) (Lib.hid rfl)).mono ?_; rintro e w' ⟨rfl, rfl⟩)
        go_roundw
        case rel => exact ⟨k + 1, by omega, by go_num, next_fit hok (by rw [hfit.out, hq.out]; rfl), Lib.hid (hB2.out _)⟩
        case measure => (simp [intOf] <;> omega)
      · obtain ⟨t1, ht1⟩ : ∃ t1, Hid (x.extract 0 (x.size - y1.size) = t1) := ⟨_, Lib.hid rfl⟩
        have hsz : t1.size = x.size - y1.size := by rw [← ht1.out, ByteArray.size_extract]; omega
        by_cases h3 : 3 ≤ t1.size
        · go_wp2_with (go_at_call 36; refine (CutSuffix_any x y1 _ (by omega) (by omega) hq (t := t1) (Lib.hid (by rw [← ht1.out]; rfl))).mono ?_; rintro e w' ⟨rfl, rfl⟩)
          go_ret
          exact ⟨ret_str (by rw [← ht.out, hat.out (by rw [hfit.out, hq.out]; simp; omega), ht1.out]), hB2.out _⟩
        · go_wp2_with (go_at_call 36; refine (CutSuffix_any x y1 _ (by omega) (by omega) hq (t := t1) (Lib.hid (by rw [← ht1.out]; rfl))).mono ?_; rintro e w' ⟨rfl, rfl⟩)
          go_roundw
          case rel => exact ⟨k + 1, by omega, by go_num, next_fit hok (by rw [hfit.out, hq.out]; simp; omega), Lib.hid (hB2.out _)⟩
          case measure => (simp [intOf] <;> omega)
    · obtain rfl : k = n := by omega
      go_wp2
      go_ret
      exact ⟨ret_str (by rw [← ht.out, endF_none hn hok]), hb.out⟩
end Go.Proofs.Ytapkkplndhbapaa
