/- The plain law of margins, people with margins and cell sums; margins in memory. Conditions: none; plain Lean. -/
import Derived.Test.YtmlpjffnmkndoaaGreatDoorJA
import Derived.Test.YtmlpjffnmkndoaaGreatDoorEQ
import Derived.Test.YtmlpjffnmkndoaaGreatDoorJY
namespace Go.Proofs.YtmlpjffnmkndoaaGreatDoor
open Go.RowKit
set_option linter.unusedVariables false
set_option linter.unusedSimpArgs false
abbrev Mgn := ByteArray × List Rti
def mgn0 : Mgn := (⟨#[]⟩, [])
theorem SlV.mgnsD {φ : Phi} {a : Option Addr} {cap : Nat} {xs : List Mgn} (h : SlV φ a cap xs) {k n : Nat} (hn : Hid (xs.length = n)) (hk : k < n) :
  ∃ b off, a = some ⟨b, off, none⟩ ∧ ∀ k, k < n → ∃ ar cr, SlV φ ar cr (xs.getD k mgn0).2 ∧ ∀ w, Fz φ w → w.cell? ⟨b, off + k * 2, none⟩ = some (.string (xs.getD k mgn0).1) ∧ w.cell? ⟨b, off + k * 2 + 1, none⟩ = some (.slice ar (xs.getD k mgn0).2.length cr) := by
 obtain ⟨b, off, ha, hc⟩ := h.cellsD mgn0 hn hk
 refine ⟨b, off, ha, fun k hk => ?_⟩
 obtain ⟨cs, ⟨c, d, rfl, h1, ⟨ar, cr, rfl, hr⟩⟩, hj⟩ := hc k hk
 cases h1
 refine ⟨ar, cr, hr, fun w hw => ?_⟩
 have j0 := hj 0 (by simp)
 have j1 := hj 1 (by simp)
 simp [Rep.size] at j0 j1
 exact ⟨hw.cell j0, hw.cell j1⟩
/-- The error of a total; of totals. -/
noncomputable def ttlF (r : Rti) : Int := if shoF r.1 r.2 ≠ 0 then shoF r.1 r.2 else if ratX r.1 r.2 < 0 then 1 else 0
noncomputable def ttsF (l : List Rti) : Int := if l.length = 0 then 9 else if 40 < l.length then 2 else scan (fun i => ttlF (l.getD i rti0)) l.length
def RtiG (r : Rti) : Prop := r.1.size ≤ 9223372036854775807 ∧ r.2.size ≤ 9223372036854775807
section
variable {l : List Rti} {k n : Nat}
theorem ttsF_stop (hn : l.length = n) (h0 : n ≠ 0) (h : n ≤ 40) (hk : k < n) (hz : ∀ i, i < k → ttlF (l.getD i rti0) = 0) {g : Int} (hg : ttlF (l.getD k rti0) = g) (hne : g ≠ 0) : ttsF l = g := by
 subst hn
 have e := scan_stop (f := fun i => ttlF (l.getD i rti0)) hz hk (by show ttlF (l.getD k rti0) ≠ 0; rw [hg]; exact hne)
 unfold ttsF
 rw [if_neg h0, if_neg (by omega), e]
 exact hg
theorem ttsF_zero (hn : l.length = n) (h0 : n ≠ 0) (h : n ≤ 40) (hz : ∀ i, i < n → ttlF (l.getD i rti0) = 0) : ttsF l = 0 := by
 subst hn
 unfold ttsF
 rw [if_neg h0, if_neg (by omega), scan_zero _ _ hz]
theorem ttsF_ok (h : ttsF l = 0) : 0 < l.length ∧ l.length ≤ 40 ∧ ∀ i, i < l.length → ttlF (l.getD i rti0) = 0 := by
 unfold ttsF at h
 split at h
 ·exact absurd h (by decide)
 ·split at h
  ·exact absurd h (by decide)
  ·exact ⟨by omega, by omega, scan_all _ h⟩
theorem ttlF_ok {r : Rti} (h : ttlF r = 0) : shoF r.1 r.2 = 0 ∧ 0 ≤ ratX r.1 r.2 := by
 unfold ttlF at h
 split at h
 ·next hne => exact absurd h hne
 ·next h1 =>
  split at h
  ·exact absurd h (by decide)
  ·next h2 => exact ⟨by simpa using h1, Rat.not_lt.1 h2⟩
end
/-- The names ahead of number k. -/
def mnmL (m : List Mgn) (k : Nat) : List ByteArray := ((m.take k).map (·.1)).reverse
theorem mnmL_succ (m : List Mgn) (k n : Nat) (hn : m.length = n) (h : k < n) : mnmL m (k + 1) = (m.getD k mgn0).1 :: mnmL m k := by
 unfold mnmL
 rw [take_snocD mgn0 m k n hn h, List.map_append, List.reverse_append]; rfl
theorem mnmL_mem {m : List Mgn} {k n : Nat} (hn : m.length = n) (hk : k ≤ n) (s : ByteArray) : s ∈ mnmL m k ↔ ∃ i, i < k ∧ (m.getD i mgn0).1 = s := by
  induction k with
  | zero =>
    constructor
    · intro h; simp [mnmL] at h
    · rintro ⟨i, hi, _⟩; omega
  | succ k ih =>
    rw [mnmL_succ m k n hn (by omega), List.mem_cons, ih (by omega)]
    constructor
    · rintro (e | ⟨i, hi, e⟩)
      · exact ⟨k, by omega, e.symm⟩
      · exact ⟨i, by omega, e⟩
    · rintro ⟨i, hi, e⟩
      by_cases h : i = k
      · subst h; exact .inl e.symm
      · exact .inr ⟨i, by omega, e⟩
noncomputable def mgnF (m : List Mgn) (k : Nat) : Int := if nameB (m.getD k mgn0).1 = false then 5 else if decide ((m.getD k mgn0).1 ∈ mnmL m k) = true then 6 else ttsF (m.getD k mgn0).2
/-- The sum of a margin's totals. -/
noncomputable def sumT (x : Mgn) : Rat := sumQ (x.2.map (fun r => ratX r.1 r.2))
noncomputable def cfl (m : List Mgn) (i : Nat) : Int := if sumT (m.getD i mgn0) = sumT (m.getD 0 mgn0) then 0 else 17
noncomputable def mgsF (m : List Mgn) : Int := if 8 < m.length then 2 else if scan (mgnF m) m.length ≠ 0 then scan (mgnF m) m.length else scan (cfl m) m.length
section
variable {m : List Mgn} {k n : Nat}
theorem mgsF_large (h : 8 < m.length) : mgsF m = 2 := by unfold mgsF; rw [if_pos h]
theorem mgsF_stop (hn : m.length = n) (h : n ≤ 8) (hk : k < n) (hz : ∀ i, i < k → mgnF m i = 0) {g : Int} (hg : mgnF m k = g) (hne : g ≠ 0) : mgsF m = g := by
 subst hn
 have e := scan_stop (f := mgnF m) hz hk (by rw [hg]; exact hne)
 unfold mgsF
 rw [if_neg (by omega), e, if_pos (by rw [hg]; exact hne), hg]
theorem mgsF_cfl (hn : m.length = n) (h : n ≤ 8) (hz : ∀ i, i < n → mgnF m i = 0) : mgsF m = scan (cfl m) n := by
 subst hn
 unfold mgsF
 rw [if_neg (by omega), scan_zero _ _ hz, if_neg (by simp)]
theorem mgsF_ok (h : mgsF m = 0) : m.length ≤ 8 ∧ (∀ i, i < m.length → mgnF m i = 0) ∧ ∀ i, i < m.length → sumT (m.getD i mgn0) = sumT (m.getD 0 mgn0) := by
 unfold mgsF at h
 split at h
 ·exact absurd h (by decide)
 ·split at h
  ·next hne => exact absurd h hne
  ·next h1 h2 =>
   refine ⟨by omega, scan_all _ (by simpa using h2), fun i hi => ?_⟩
   have := scan_all _ h i hi
   unfold cfl at this
   split at this
   ·assumption
   ·exact absurd this (by decide)
theorem mgnF_ok (h : mgnF m k = 0) : nameB (m.getD k mgn0).1 = true ∧ ttsF (m.getD k mgn0).2 = 0 := by
 unfold mgnF at h
 split at h
 ·exact absurd h (by decide)
 ·next h1 =>
  split at h
  ·exact absurd h (by decide)
  ·exact ⟨by simpa using h1, h⟩
end
/-- The error of cells with margins; of a person; of people. -/
def celM (m : List Mgn) (cl : List Int) : Int := if cl.length ≠ m.length then 3 else scan (fun i => if outB (cl.getD i 0) 0 (((m.getD i mgn0).2.length : Int) - 1) then 1 else 0) cl.length
noncomputable def psmF (m : List Mgn) (p : Psn) : Int := if wgtF p.1 ≠ 0 then wgtF p.1 else if celM m p.2.1 ≠ 0 then celM m p.2.1 else numF p.2.2.1 p.2.2.2.1 p.2.2.2.2
noncomputable def ppmF (m : List Mgn) (l : List Psn) : Int := if mgsF m ≠ 0 then mgsF m else if 3000 < l.length then 2 else scan (fun i => psmF m (l.getD i psn0)) l.length
section
variable {m : List Mgn} {l : List Psn} {k n : Nat}
theorem celM_stop {cl : List Int} (hn : cl.length = n) (hm : m.length = n) (hk : k < n) (h0 : ∀ i, i < k → (if outB (cl.getD i 0) 0 (((m.getD i mgn0).2.length : Int) - 1) then 1 else 0 : Int) = 0) (hg : outB (cl.getD k 0) 0 (((m.getD k mgn0).2.length : Int) - 1) = true) : celM m cl = 1 := by
 subst hn
 have e := scan_stop (f := fun i => (if outB (cl.getD i 0) 0 (((m.getD i mgn0).2.length : Int) - 1) then 1 else 0 : Int)) h0 hk (by show (if outB (cl.getD k 0) 0 (((m.getD k mgn0).2.length : Int) - 1) then 1 else 0 : Int) ≠ 0; rw [hg]; decide)
 unfold celM
 rw [if_neg (by rw [hm]; simp), e]
 show (if outB (cl.getD k 0) 0 (((m.getD k mgn0).2.length : Int) - 1) then 1 else 0 : Int) = 1
 rw [hg]; rfl
theorem celM_zero {cl : List Int} (hn : cl.length = n) (hm : m.length = n) (h0 : ∀ i, i < n → (if outB (cl.getD i 0) 0 (((m.getD i mgn0).2.length : Int) - 1) then 1 else 0 : Int) = 0) : celM m cl = 0 := by
 subst hn
 unfold celM
 rw [if_neg (by rw [hm]; simp), scan_zero _ _ h0]
theorem celM_ok {cl : List Int} (h : celM m cl = 0) : cl.length = m.length ∧ ∀ i, i < m.length → 0 ≤ cl.getD i 0 ∧ cl.getD i 0 < ((m.getD i mgn0).2.length : Int) := by
 unfold celM at h
 split at h
 ·exact absurd h (by decide)
 ·next h1 =>
  have e : cl.length = m.length := by simpa using h1
  refine ⟨e, fun i hi => ?_⟩
  have := scan_all _ h i (by omega)
  split at this
  ·exact absurd this (by decide)
  ·next h2 =>
   rw [outB, Bool.or_eq_true, decide_eq_true_eq, decide_eq_true_eq] at h2
   omega
theorem psmF_ok {p : Psn} (h : psmF m p = 0) : shoF p.1.1 p.1.2 = 0 ∧ 0 < ratX p.1.1 p.1.2 ∧ celM m p.2.1 = 0 := by
 unfold psmF at h
 split at h
 ·next hne => exact absurd h hne
 ·next hz =>
  have hz : wgtF p.1 = 0 := by simpa using hz
  have h1 : shoF p.1.1 p.1.2 = 0 ∧ 0 < ratX p.1.1 p.1.2 := by
   unfold wgtF at hz
   split at hz
   ·next hne => exact absurd hz hne
   ·next h1 =>
    split at hz
    ·exact absurd hz (by decide)
    ·next h2 => exact ⟨by simpa using h1, Rat.not_le.1 h2⟩
  split at h
  ·next hne => exact absurd h hne
  ·next h2 => exact ⟨h1.1, h1.2, by simpa using h2⟩
theorem ppmF_mgs {g : Int} (hg : mgsF m = g) (hne : g ≠ 0) : ppmF m l = g := by unfold ppmF; rw [hg, if_pos hne]
theorem ppmF_large (h0 : mgsF m = 0) (h : 3000 < l.length) : ppmF m l = 2 := by unfold ppmF; rw [h0, if_neg (by simp), if_pos h]
theorem ppmF_stop (h0 : mgsF m = 0) (hn : l.length = n) (h : n ≤ 3000) (hk : k < n) (hz : ∀ i, i < k → psmF m (l.getD i psn0) = 0) {g : Int} (hg : psmF m (l.getD k psn0) = g) (hne : g ≠ 0) : ppmF m l = g := by
 subst hn
 have e := scan_stop (f := fun i => psmF m (l.getD i psn0)) hz hk (by show psmF m (l.getD k psn0) ≠ 0; rw [hg]; exact hne)
 unfold ppmF
 rw [h0, if_neg (by simp), if_neg (by omega), e]
 exact hg
theorem ppmF_zero (h0 : mgsF m = 0) (hn : l.length = n) (h : n ≤ 3000) (hz : ∀ i, i < n → psmF m (l.getD i psn0) = 0) : ppmF m l = 0 := by
 subst hn
 unfold ppmF
 rw [h0, if_neg (by simp), if_neg (by omega), scan_zero _ _ hz]
theorem ppmF_ok (h : ppmF m l = 0) : mgsF m = 0 ∧ l.length ≤ 3000 ∧ ∀ i, i < l.length → psmF m (l.getD i psn0) = 0 := by
 unfold ppmF at h
 split at h
 ·next hne => exact absurd h hne
 ·next h1 =>
  split at h
  ·exact absurd h (by decide)
  ·exact ⟨by simpa using h1, by omega, scan_all _ h⟩
end
/-- A person's cell in a margin; the sum of the first numbers in a cell. -/
def celI (l : List Psn) (mi j : Nat) : Int := (l.getD j psn0).2.1.getD mi 0
noncomputable def celT (w : Nat → Rat) (l : List Psn) (mi : Nat) (c : Int) (j : Nat) : Rat := if celI l mi j = c then w j else 0
noncomputable def celQ (w : Nat → Rat) (l : List Psn) (mi : Nat) (c : Int) (k : Nat) : Rat := sumF (celT w l mi c) k
section
variable {w : Nat → Rat} {l : List Psn} {mi j : Nat} {c : Int}
theorem celQ_yes (h : celI l mi j = c) : celQ w l mi c (j + 1) = celQ w l mi c j + w j := by
 show celQ w l mi c j + celT w l mi c j = _
 have e : celT w l mi c j = w j := by unfold celT; rw [if_pos h]
 rw [e]
theorem celQ_no (h : ¬ celI l mi j = c) : celQ w l mi c (j + 1) = celQ w l mi c j := by
 show celQ w l mi c j + celT w l mi c j = _
 have e : celT w l mi c j = 0 := by unfold celT; rw [if_neg h]
 rw [e, Rat.add_zero]
end
end Go.Proofs.YtmlpjffnmkndoaaGreatDoor
