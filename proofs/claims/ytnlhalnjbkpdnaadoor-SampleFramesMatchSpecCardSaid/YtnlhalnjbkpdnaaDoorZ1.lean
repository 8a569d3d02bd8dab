/- Frames of units: the plain law (faults, strata, clusters) and reading units. Conditions: none; no program in sight. -/
import Derived.Test.YtnlhalnjbkpdnaaDoorE1
import Derived.Test.YtnlhalnjbkpdnaaDoorZ0
namespace Go.Proofs.YtnlhalnjbkpdnaaDoor
open Go.RowKit
set_option linter.unusedVariables false
set_option linter.unusedSimpArgs false
abbrev Unt := Int × ByteArray × Int × Int
abbrev Clu := Int × Int × List Unt
abbrev Lyr := ByteArray × List Unt × Int × List Clu
abbrev Stm := ByteArray × Int × Int × Int
def unt0 : Unt := (0, ByteArray.empty, 0, 0)
noncomputable def uBad (l : List Unt) (i : Nat) : Int :=
  if (l.getD i unt0).1 < 1 then 1
  else if 0 < i ∧ (l.getD i unt0).1 ≤ (l.getD (i - 1) unt0).1 then 7
  else if nameB (l.getD i unt0).2.1 = false then 5
  else if outB (l.getD i unt0).2.2.1 0 5000 = true ∨ outB (l.getD i unt0).2.2.2 1 1000000 = true then 1 else 0
def btT (s : ByteArray) : List UInt8 := s.data.toList
def ofT (b : List UInt8) : ByteArray := ⟨b.toArray⟩
theorem ofT_btT (s : ByteArray) : ofT (btT s) = s := rfl
theorem btT_ofT (b : List UInt8) : btT (ofT b) = b := rfl
theorem btT_inj {s t : ByteArray} (h : btT s = btT t) : s = t := by rw [← ofT_btT s, h, ofT_btT]
/-- The strata's names, in order; a stratum's units. -/
def nmsL (l : List Unt) : List ByteArray := (risT (l.map (fun u => btT u.2.1))).map ofT
def stU (l : List Unt) (s : ByteArray) : List Unt := l.filter (fun u => decide (btT u.2.1 = btT s))
def cnsL (l : List Unt) : List Int := risI (l.map (fun u => u.2.2.1))
def clU (l : List Unt) (c : Int) : List Unt := l.filter (fun u => decide (u.2.2.1 = c))
def szU (l : List Unt) : Int := (l.map (fun u => u.2.2.2)).sum
def cluF (l : List Unt) (c : Int) : Clu := (c, szU (clU l c), clU l c)
def lyrF (l : List Unt) (s : ByteArray) : Lyr := (s, stU l s, szU (stU l s), (cnsL (stU l s)).map (cluF (stU l s)))
def stmF (l : List Unt) (s : ByteArray) : Stm := (s, ((stU l s).length : Int), ((cnsL (stU l s)).length : Int), szU (stU l s))
noncomputable def frmU (l : List Unt) : Int := if 5000 < l.length then 2 else if scan (uBad l) l.length ≠ 0 then scan (uBad l) l.length else if 40 < (nmsL l).length then 2 else 0
noncomputable def lyrR (l : List Unt) : List Lyr × Int := if frmU l ≠ 0 then ([], frmU l) else ((nmsL l).map (lyrF l), 0)
noncomputable def stmR (l : List Unt) : List Stm × Int := if frmU l ≠ 0 then ([], frmU l) else ((nmsL l).map (stmF l), 0)
theorem mem_nmsL {l : List Unt} {s : ByteArray} : s ∈ nmsL l ↔ ∃ u ∈ l, u.2.1 = s := by
  unfold nmsL
  rw [List.mem_map]
  constructor
  · rintro ⟨b, hb, rfl⟩
    obtain ⟨u, hu, e⟩ := List.mem_map.1 (mem_risT.1 hb)
    exact ⟨u, hu, by rw [← e, ofT_btT]⟩
  · rintro ⟨u, hu, rfl⟩
    exact ⟨btT u.2.1, mem_risT.2 (List.mem_map.2 ⟨u, hu, rfl⟩), ofT_btT _⟩
theorem mem_cnsL {l : List Unt} {c : Int} : c ∈ cnsL l ↔ ∃ u ∈ l, u.2.2.1 = c := by
  unfold cnsL; rw [mem_risI, List.mem_map]
theorem nmsL_eq {l : List Unt} {L : List (List UInt8)} (h : L.Pairwise (fun a b => ltT a b = true)) (hm : ∀ x, x ∈ L ↔ ∃ u ∈ l, btT u.2.1 = x) : L.map ofT = nmsL l := by
  unfold nmsL
  exact congrArg (List.map ofT) (risT_eq h (fun x => (hm x).trans List.mem_map.symm))
theorem cnsL_eq {l : List Unt} {L : List Int} (h : L.Pairwise (· < ·)) (hm : ∀ x, x ∈ L ↔ ∃ u ∈ l, u.2.2.1 = x) : L = cnsL l := by
  unfold cnsL
  exact risI_eq h (fun x => (hm x).trans List.mem_map.symm)
theorem stU_snoc (l : List Unt) (u : Unt) (s : ByteArray) : stU (l ++ [u]) s = if u.2.1 = s then stU l s ++ [u] else stU l s := by
  unfold stU
  rw [List.filter_append]
  by_cases h : u.2.1 = s
  · simp [h]
  · have h2 : btT u.2.1 ≠ btT s := fun e => h (btT_inj e)
    simp [h, h2]
theorem clU_snoc (l : List Unt) (u : Unt) (c : Int) : clU (l ++ [u]) c = if u.2.2.1 = c then clU l c ++ [u] else clU l c := by
  unfold clU
  rw [List.filter_append]
  by_cases h : u.2.2.1 = c <;> simp [h]
theorem szU_snoc (l : List Unt) (u : Unt) : szU (l ++ [u]) = szU l + u.2.2.2 := by
  unfold szU; rw [List.map_append, List.sum_append]; simp
theorem stU_len (l : List Unt) (s : ByteArray) : (stU l s).length ≤ l.length := List.length_filter_le _ _
theorem clU_len (l : List Unt) (c : Int) : (clU l c).length ≤ l.length := List.length_filter_le _ _
theorem stU_mem {l : List Unt} {s : ByteArray} {u : Unt} (h : u ∈ stU l s) : u ∈ l := (List.mem_filter.1 h).1
theorem clU_mem {l : List Unt} {c : Int} {u : Unt} (h : u ∈ clU l c) : u ∈ l := (List.mem_filter.1 h).1
/-- Sizes stay small. -/
theorem szU_bd {l : List Unt} (h : ∀ u ∈ l, 1 ≤ u.2.2.2 ∧ u.2.2.2 ≤ 1000000) : (l.length : Int) ≤ szU l ∧ szU l ≤ 1000000 * (l.length : Int) := by
  induction l with
  | nil => exact ⟨Int.le_refl _, Int.le_refl _⟩
  | cons u l ih =>
    have h1 := h u (by simp)
    have h2 := ih (fun v hv => h v (by simp [hv]))
    have e : szU (u :: l) = u.2.2.2 + szU l := by unfold szU; rw [List.map_cons, List.sum_cons]
    rw [e, List.length_cons]
    omega
theorem uBad_ok {l : List Unt} {i : Nat} (h : uBad l i = 0) : nameB (l.getD i unt0).2.1 = true ∧ (0 ≤ (l.getD i unt0).2.2.1 ∧ (l.getD i unt0).2.2.1 ≤ 5000) ∧ 1 ≤ (l.getD i unt0).2.2.2 ∧ (l.getD i unt0).2.2.2 ≤ 1000000 := by
  unfold uBad at h
  generalize l.getD i unt0 = u at *
  split at h
  · cases h
  split at h
  · cases h
  split at h
  · cases h
  split at h
  · cases h
  next h3 h4 =>
  refine ⟨by simpa using h3, ?_⟩
  unfold outB at h4
  simp at h4
  omega
theorem frm_ok {l : List Unt} (h : frmU l = 0) : l.length ≤ 5000 ∧ (nmsL l).length ≤ 40 ∧ ∀ u ∈ l, nameB u.2.1 = true ∧ (0 ≤ u.2.2.1 ∧ u.2.2.1 ≤ 5000) ∧ 1 ≤ u.2.2.2 ∧ u.2.2.2 ≤ 1000000 := by
  unfold frmU at h
  split at h
  · cases h
  split at h
  · next h2 => exact absurd h h2
  split at h
  · cases h
  next h1 h2 h3 =>
  refine ⟨by omega, by omega, fun u hu => ?_⟩
  have h2 : scan (uBad l) l.length = 0 := Classical.byContradiction h2
  obtain ⟨i, hi, rfl⟩ := List.getElem_of_mem hu
  have := uBad_ok (scan_all _ h2 i hi)
  rwa [getD_elem0 _ _ _ hi] at this
theorem SlV.untD {φ : Phi} {a : Option Addr} {cap : Nat} {xs : List Unt} (h : SlV φ a cap xs) {k n : Nat} (hn : Hid (xs.length = n)) (hk : k < n) :
    ∃ b off, a = some ⟨b, off, none⟩ ∧ ∀ k, k < n → ∀ w, Fz φ w → b < w.heap.size ∧ w.cell? ⟨b, off + k * 4, none⟩ = some (.int .i64 (xs.getD k unt0).1) ∧ w.cell? ⟨b, off + k * 4 + 1, none⟩ = some (.string (xs.getD k unt0).2.1) ∧ w.cell? ⟨b, off + k * 4 + 2, none⟩ = some (.int .i64 (xs.getD k unt0).2.2.1) ∧ w.cell? ⟨b, off + k * 4 + 3, none⟩ = some (.int .i64 (xs.getD k unt0).2.2.2) := by
  obtain ⟨b, off, ha, hc⟩ := h.cellsD unt0 hn hk
  refine ⟨b, off, ha, fun k hk w hw => ?_⟩
  obtain ⟨cs, ⟨c, d, rfl, h1, c2, d2, rfl, h2, c3, d3, rfl, h3, h4⟩, hj⟩ := hc k hk
  cases h1; cases h2; cases h3; cases h4
  have j0 := hj 0 (by simp)
  have j1 := hj 1 (by simp)
  have j2 := hj 2 (by simp)
  have j3 := hj 3 (by simp)
  simp [Rep.size] at j0 j1 j2 j3
  exact ⟨hw.lt j0, hw.cell j0, hw.cell j1, hw.cell j2, hw.cell j3⟩
theorem rep_unt (φ : Phi) (u : Unt) : Rep.rep φ u [.int .i64 u.1, .string u.2.1, .int .i64 u.2.2.1, .int .i64 u.2.2.2] :=
  ⟨[.int .i64 u.1], [.string u.2.1, .int .i64 u.2.2.1, .int .i64 u.2.2.2], rfl, rfl, [.string u.2.1], [.int .i64 u.2.2.1, .int .i64 u.2.2.2], rfl, rfl, [.int .i64 u.2.2.1], [.int .i64 u.2.2.2], rfl, rfl, rfl⟩
end Go.Proofs.YtnlhalnjbkpdnaaDoor
