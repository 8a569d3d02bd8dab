/- Data of a case: what Check says of a value, as plain Lean. Conditions: none; plain Lean. -/
import Derived.Test.YtkfmadeeobalaaaDoorQB
namespace Go.Proofs.YtkfmadeeobalaaaDoor
open Go.RowKit
set_option linter.unusedVariables false
abbrev Val := Int × Int × ByteArray × List Int
abbrev KeyD := ByteArray × List Int
abbrev Giv := KeyD × Val
abbrev giv0 : Giv := ((ByteArray.empty, []), (0, 0, ByteArray.empty, []))
def usesN (k : Int) : Bool := decide (k ≠ 0) && decide (k ≠ 3) && decide (k ≠ 5)
def unusedB (v : Val) : Bool := (!usesN v.1 && decide (v.2.1 ≠ 0)) || (decide (v.1 ≠ 3) && decide (0 < v.2.2.1.size)) || (decide (v.1 ≠ 5) && decide (0 < v.2.2.2.length))
def limL (k : Int) : Int := if k = 1 then 1 else if k = 2 then -999999999999999 else if k = 4 then 1 else if k = 6 then -25567 else 0
def limH (k : Int) : Int := if k = 1 then 3 else if k = 2 then 999999999999999 else if k = 4 then 999 else if k = 6 then 84005 else if k = 7 then 1 else 0
def chF (s : ByteArray) (i : Nat) : Int := if byt s i < 32 ∨ 126 < byt s i then 1 else 0
def stF (l : List Int) (i : Nat) : Int := if outB (l.getD i 0) 1 999 = true then 1 else 0
def orF (l : List Int) (i : Nat) : Int := if l.getD (i + 1) 0 ≤ l.getD i 0 then 7 else 0
/-- What is wrong with a value's text and set. -/
def restF (s : ByteArray) (l : List Int) : Int :=
  if scan (chF s) s.size ≠ 0 then scan (chF s) s.size else if scan (stF l) l.length ≠ 0 then scan (stF l) l.length else scan (orF l) (l.length - 1)
/-- What is wrong with a value. -/
def valF (v : Val) : Int :=
  if outB v.1 0 7 = true then 4 else if unusedB v = true then 3 else if outB v.2.1 (limL v.1) (limH v.1) = true then 1
  else if 200 < v.2.2.1.size ∨ 40 < v.2.2.2.length then 2 else restF v.2.2.1 v.2.2.2
theorem scan_one {f : Nat → Int} {c : Int} (hf : ∀ i, f i = c ∨ f i = 0) : ∀ n, scan f n = c ∨ scan f n = 0
  | 0 => .inr (scan_zero f 0 (fun i hi => by omega))
  | n + 1 => by
    by_cases h : ∀ i, i < n + 1 → f i = 0
    · exact .inr (scan_zero f _ h)
    · rcases scan_one hf n with h1 | h1
      · by_cases h2 : ∀ i, i < n → f i = 0
        · have h3 := scan_zero f n h2
          have h4 : f n ≠ 0 := fun e => h (fun i hi => by
            by_cases e2 : i = n
            · rw [e2]; exact e
            · exact h2 i (by omega))
          rw [scan_stop h2 (by omega) h4]
          exact hf n
        · exact .inl (by
            have : ∃ i, i < n ∧ f i ≠ 0 ∧ ∀ j, j < i → f j = 0 := by
              apply Classical.byContradiction
              intro hc
              apply h2
              intro i
              induction i using Nat.strongRecOn with
              | _ i ih =>
                intro hi
                apply Classical.byContradiction
                intro e
                exact hc ⟨i, hi, e, fun j hj => ih j hj (by omega)⟩
            obtain ⟨i, hi, he, hj⟩ := this
            rw [scan_stop hj (by omega) he]
            exact (hf i).resolve_right he)
      · have h2 := scan_all n h1
        have h4 : f n ≠ 0 := fun e => h (fun i hi => by
          by_cases e2 : i = n
          · rw [e2]; exact e
          · exact h2 i (by omega))
        rw [scan_stop h2 (by omega) h4]
        exact hf n
section
variable {s : ByteArray} {l : List Int} {k : Nat}
theorem restF_1 (h : ∀ i, i < k → chF s i = 0) (hk : k < s.size) (hc : chF s k ≠ 0) : restF s l = chF s k := by
  unfold restF; rw [scan_stop h hk hc, if_pos hc]
theorem restF_2 (h0 : ∀ i, i < s.size → chF s i = 0) (h : ∀ i, i < k → stF l i = 0) (hk : k < l.length) (hc : stF l k ≠ 0) : restF s l = stF l k := by
  unfold restF; rw [scan_zero _ _ h0, if_neg (by simp), scan_stop h hk hc, if_pos hc]
theorem restF_3 (h0 : ∀ i, i < s.size → chF s i = 0) (h1 : ∀ i, i < l.length → stF l i = 0) (h : ∀ i, i < k → orF l i = 0) (hk : k < l.length - 1) (hc : orF l k ≠ 0) : restF s l = orF l k := by
  unfold restF; rw [scan_zero _ _ h0, if_neg (by simp), scan_zero _ _ h1, if_neg (by simp), scan_stop h hk hc]
theorem restF_0 (h0 : ∀ i, i < s.size → chF s i = 0) (h1 : ∀ i, i < l.length → stF l i = 0) (h : ∀ i, i < l.length - 1 → orF l i = 0) : restF s l = 0 := by
  unfold restF; rw [scan_zero _ _ h0, if_neg (by simp), scan_zero _ _ h1, if_neg (by simp), scan_zero _ _ h]
end
/-- A slice of data reads as a list. -/
theorem SlV.givD {φ : Phi} {a : Option Addr} {cap : Nat} {xs : List Giv} (h : SlV φ a cap xs) {k n : Nat} (hn : Hid (xs.length = n)) (hk : k < n) :
    ∃ b off, a = some ⟨b, off, none⟩ ∧ ∀ k, k < n → ∃ ar cr as_ cs_, SlV φ ar cr (xs.getD k giv0).1.2 ∧ SlV φ as_ cs_ (xs.getD k giv0).2.2.2.2 ∧ ∀ w, Fz φ w → b < w.heap.size ∧ w.cell? ⟨b, off + k * 6, none⟩ = some (.string (xs.getD k giv0).1.1) ∧ w.cell? ⟨b, off + k * 6 + 1, none⟩ = some (.slice ar (xs.getD k giv0).1.2.length cr) ∧ w.cell? ⟨b, off + k * 6 + 2, none⟩ = some (.int .i64 (xs.getD k giv0).2.1) ∧ w.cell? ⟨b, off + k * 6 + 3, none⟩ = some (.int .i64 (xs.getD k giv0).2.2.1) ∧ w.cell? ⟨b, off + k * 6 + 4, none⟩ = some (.string (xs.getD k giv0).2.2.2.1) ∧ w.cell? ⟨b, off + k * 6 + 5, none⟩ = some (.slice as_ (xs.getD k giv0).2.2.2.2.length cs_) := by
  obtain ⟨b, off, ha, hc⟩ := h.cellsD giv0 hn hk
  refine ⟨b, off, ha, fun k hk => ?_⟩
  obtain ⟨cs, ⟨c, d, rfl, ⟨c1, c2, rfl, h1, ⟨ar, cr, rfl, hr⟩⟩, d1, d2, rfl, h2, d3, d4, rfl, h3, d5, d6, rfl, h4, ⟨as_, cs_, rfl, hs⟩⟩, hj⟩ := hc k hk
  cases h1
  cases h2
  cases h3
  cases h4
  refine ⟨ar, cr, as_, cs_, hr, hs, fun w hw => ?_⟩
  have j0 := hj 0 (by simp)
  have j1 := hj 1 (by simp)
  have j2 := hj 2 (by simp)
  have j3 := hj 3 (by simp)
  have j4 := hj 4 (by simp)
  have j5 := hj 5 (by simp)
  simp [Rep.size] at j0 j1 j2 j3 j4 j5
  exact ⟨hw.lt j0, hw.cell j0, hw.cell j1, hw.cell j2, hw.cell j3, hw.cell j4, hw.cell j5⟩
end Go.Proofs.YtkfmadeeobalaaaDoor
