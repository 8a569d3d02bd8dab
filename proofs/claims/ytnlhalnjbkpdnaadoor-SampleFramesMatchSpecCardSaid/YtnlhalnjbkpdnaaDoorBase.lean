/- Words used by all walks of a seat: readings of slices of integers by an index, scans for the first fault, small lemmas. Conditions: none. -/
import Derived.Test.YtnlhalnjbkpdnaaDoorRows
import Derived.Test.YtnlhalnjbkpdnaaDoorOpen
import Derived.WalkSpells
import Derived.WalkLawsBesides
namespace Go.Proofs.YtnlhalnjbkpdnaaDoor
open Go.RowKit
set_option linter.unusedVariables false
set_option linter.unusedSimpArgs false

theorem slI : SliceTy Tryd.prog 41 3 (.int .i64 0) (Rep.size Int) 8 := ⟨Tryd.underlying41, by kernel_rfl, rfl, by decide, by decide⟩
theorem bytesI : Tryd.prog.bytesOf 3 = 8 := by kernel_rfl
theorem rInts (H : Type) (enc : TypeId × Value → H) (W : World) : Reads enc Tryd.prog W 41 (List Int) (fun xs => xs.length * 8 ≤ reachBytes ∧ ∀ x ∈ xs, IsI64 x) := by have := Reads.slice (enc := enc) (W := W) Tryd.underlying41 (by kernel_rfl) (by decide) (Reads.int Tryd.underlying3); simp only [bytesI] at this; exact this
theorem rInt (H : Type) (enc : TypeId × Value → H) (W : World) : Reads enc Tryd.prog W 3 Int IsI64 := Reads.int Tryd.underlying3
theorem rStr (H : Type) (enc : TypeId × Value → H) (W : World) : Reads enc Tryd.prog W 9 ByteArray StrG := Reads.str Tryd.underlying9

def outB (n lo hi : Int) : Bool := decide (n < lo) || decide (n > hi)
theorem outB_true {n lo hi : Int} : outB n lo hi = true ↔ n < lo ∨ hi < n := by simp [outB]
theorem outB_false {n lo hi : Int} : outB n lo hi = false ↔ lo ≤ n ∧ n ≤ hi := by simp [outB]

theorem getD_elem0 {α : Type} (d : α) (l : List α) (k : Nat) (h : k < l.length) : l.getD k d = l[k] := by
  rw [List.getD_eq_getElem?_getD, List.getElem?_eq_getElem h]; rfl
theorem take_snoc {α : Type} (l : List α) (k : Nat) (h : k < l.length) : l.take (k + 1) = l.take k ++ [l[k]] := by
  rw [List.take_add_one, List.getElem?_eq_getElem h]; rfl
theorem take_snocD {α : Type} (d : α) (l : List α) (k n : Nat) (hn : l.length = n) (h : k < n) : l.take (k + 1) = l.take k ++ [l.getD k d] := by
  subst hn
  rw [take_snoc l k h, getD_elem0 d l k h]

theorem SlV.intsD {φ : Phi} {a : Option Addr} {cap : Nat} {xs : List Int} (h : SlV φ a cap xs) {k n : Nat} (hn : Hid (xs.length = n)) (hk : k < n) :
    ∃ b off, a = some ⟨b, off, none⟩ ∧ ∀ k, k < n → ∀ w, Fz φ w → b < w.heap.size ∧ w.cell? ⟨b, off + k, none⟩ = some (.int .i64 (xs.getD k 0)) := by
  obtain ⟨b, off, ha, hc⟩ := h.at_ (by intro e; subst e; have := hn.out; simp at this; omega)
  refine ⟨b, off, ha, fun k hk w hw => ?_⟩
  obtain ⟨cs, hr, hj⟩ := hc k (by rw [hn.out]; exact hk)
  have hcs' : cs = [.int .i64 (xs[k]'(by rw [hn.out]; exact hk))] := hr
  subst hcs'
  have := hj 0 (by simp)
  simp [Rep.size] at this
  exact ⟨hw.lt this, by rw [hw.cell this, getD_elem0 _ _ _ (by rw [hn.out]; exact hk)]⟩
theorem Own.intsD {B : Nat} {φ : Phi} {w : World} {E : TypeId} {a : Option Addr} {cap : Nat} {xs : List Int} (h : Own B φ w E a cap xs) {k n : Nat} (hn : Hid (xs.length = n)) (hk : k < n) :
    ∃ g, a = some ⟨g, 0, none⟩ ∧ g < w.heap.size ∧ ∀ k, k < n → w.cell? ⟨g, k, none⟩ = some (.int .i64 (xs.getD k 0)) ∧ w.frozen? ⟨g, k, none⟩ = false ∧
      ∀ y w0 φ0, Inv B w0 φ0 φ w → Own B φ (w.setCell ⟨g, k, none⟩ (.int .i64 y)) E a cap (xs.set k y) ∧ Inv B w0 φ0 φ (w.setCell ⟨g, k, none⟩ (.int .i64 y)) := by
  obtain ⟨g, rfl, _, hg, _, hf, hc⟩ := h.elem (k := k) (by rw [hn.out]; exact hk)
  refine ⟨g, rfl, hg, fun k hk => ?_⟩
  have hk' : k < xs.length := by rw [hn.out]; exact hk
  obtain ⟨cs, hcs, hj⟩ := hc k hk'
  have hcs' : cs = [.int .i64 xs[k]] := hcs
  subst hcs'
  have h0 := hj 0 (by simp)
  simp [Rep.size] at h0
  refine ⟨by rw [h0, getD_elem0 _ _ _ hk'], hf k, fun y w0 φ0 hi => ?_⟩
  have := h.setCell hi hk' (y := y) (j := 0) (u := .int .i64 y) hj rfl (by simp) rfl
  simpa [Rep.size] using this

/-- The cells of a slice that reads as a list, at an index. -/
theorem SlV.cellsD {α : Type} [Rep α] {φ : Phi} {a : Option Addr} {cap : Nat} {xs : List α} (d : α) (h : SlV φ a cap xs) {k n : Nat} (hn : Hid (xs.length = n)) (hk : k < n) :
    ∃ b off, a = some ⟨b, off, none⟩ ∧ ∀ k, k < n → ∃ cs, Rep.rep φ (xs.getD k d) cs ∧ ∀ j (hj : j < cs.length), φ.cell? ⟨b, off + k * Rep.size α + j, none⟩ = some cs[j] := by
  obtain ⟨b, off, ha, hc⟩ := h.at_ (by intro e; subst e; have := hn.out; simp at this; omega)
  refine ⟨b, off, ha, fun k hk => ?_⟩
  have hk' : k < xs.length := by rw [hn.out]; exact hk
  rw [getD_elem0 _ _ _ hk']
  exact hc k hk'

theorem str_eq_t {a b : ByteArray} (h : a = b) : (a.toList == b.toList) = true := by rw [h]; simp
theorem str_eq_f {a b : ByteArray} (h : ¬ a = b) : (a.toList == b.toList) = false := by
  rw [Bool.eq_false_iff]
  intro e
  have e := eq_of_beq e
  rw [ByteArray.toList_eq, ByteArray.toList_eq] at e
  obtain ⟨⟨x⟩⟩ := a
  obtain ⟨⟨y⟩⟩ := b
  exact h (by cases (e : x = y); rfl)

/-- A loop with a state: rounds k, k + 1, .. -/
def forF {σ ρ : Type} (step : Nat → σ → Except ρ σ) : Nat → Nat → σ → Except ρ σ
  | 0, _, s => .ok s
  | f + 1, k, s => match step k s with
    | .ok s' => forF step f (k + 1) s'
    | .error r => .error r
section
variable {σ ρ : Type} {step : Nat → σ → Except ρ σ} {n k : Nat} {s s' : σ} {tot : Except ρ σ} {r : ρ}
theorem for_next (h : Hid (forF step (n - k) k s = tot)) (hk : k < n) (hs : step k s = .ok s') : Hid (forF step (n - (k + 1)) (k + 1) s' = tot) := by
  refine Lib.hid ?_
  have := h.out
  rw [show n - k = (n - (k + 1)) + 1 by omega, forF, hs] at this
  exact this
theorem for_stop (h : Hid (forF step (n - k) k s = tot)) (hk : k < n) (hs : step k s = .error r) : tot = .error r := by
  have := h.out
  rw [show n - k = (n - (k + 1)) + 1 by omega, forF, hs] at this
  exact this.symm
theorem for_done (h : Hid (forF step (n - n) n s = tot)) : tot = .ok s := by
  have := h.out
  rw [Nat.sub_self] at this
  exact this.symm
end

/-- The first that is not 0. -/
def scan (f : Nat → Int) : Nat → Int
  | 0 => 0
  | n + 1 => if scan f n ≠ 0 then scan f n else f n
theorem scan_zero (f : Nat → Int) : ∀ n, (∀ i, i < n → f i = 0) → scan f n = 0
  | 0, _ => rfl
  | n + 1, h => by rw [scan, scan_zero f n (fun i hi => h i (by omega)), if_neg (by simp)]; exact h n (by omega)
theorem scan_stop {f : Nat → Int} {n k : Nat} (h : ∀ i, i < k → f i = 0) (hk : k < n) (hf : f k ≠ 0) : scan f n = f k := by
  have : ∀ d, scan f (k + 1 + d) = f k := by
    intro d
    induction d with
    | zero => rw [Nat.add_zero, scan, scan_zero f k h, if_neg (by simp)]
    | succ d ih => rw [← Nat.add_assoc, scan, ih, if_pos hf]
  have e : n = k + 1 + (n - (k + 1)) := by omega
  rw [e]; exact this _
theorem scan_all {f : Nat → Int} : ∀ n, scan f n = 0 → ∀ i, i < n → f i = 0
  | 0, _, i, hi => by omega
  | n + 1, h, i, hi => by
    unfold scan at h
    split at h
    · next hne => exact absurd h hne
    · next hz =>
      have hz : scan f n = 0 := by simpa using hz
      by_cases e : i = n
      · subst e; exact h
      · exact scan_all n hz i (by omega)
theorem next_ok {f : Nat → Int} {k : Nat} (h : Hid (∀ i, i < k → f i = 0)) (hk : f k = 0) : Hid (∀ i, i < k + 1 → f i = 0) := by
  refine Lib.hid fun i hi => ?_
  by_cases e : i = k
  · subst e; exact hk
  · exact h.out i (by omega)
theorem none_yet (f : Nat → Int) : Hid (∀ i, i < 0 → f i = 0) := Lib.hid (fun i hi => by omega)
def IntB (c : Int) (w : World) (e : Ending) (w' : World) : Prop := e = .returned (.int .i64 c) ∧ Below w.heap.size w w'
theorem box_at {w : World} {cs : Array Value} {T : TypeId} (i : Nat) : (w.alloc (.cells cs T)).cell? ⟨w.heap.size, i, none⟩ = cs[i]? := by
  rw [World.cell?_alloc_at _ _ _ _ rfl]
end Go.Proofs.YtnlhalnjbkpdnaaDoor
