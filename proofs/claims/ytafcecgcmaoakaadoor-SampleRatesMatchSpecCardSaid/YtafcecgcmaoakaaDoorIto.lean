/- strconv.Itoa: its numeral, where the library's table of powers of ten reads as it was laid. Conditions: that table (PowP). -/
import Derived.Test.YtafcecgcmaoakaaDoorSh2
import Derived.Test.YtafcecgcmaoakaaDoorLit
namespace Go.Proofs.YtafcecgcmaoakaaDoor
open Go.RowKit
set_option linter.unusedVariables false
/-- The library's table of powers of ten, in the frozen heap. -/
def PowP (φ : Phi) : Prop := ∃ T z, φ 2 = some (.cells (Lib.pow10Tab.map fun z => Value.int .u64 z).toArray T z)
theorem PowP.mono {φ φ' : Phi} (h : PowP φ) (hl : φ.le φ') : PowP φ' := by obtain ⟨T, z, h⟩ := h; exact ⟨T, z, hl _ _ h⟩
theorem PowP.tab {φ : Phi} {w : World} (h : PowP φ) (hφ : Fz φ w) : Lib.TabIs Tryd.prog w "internal/strconv.uint64pow10" .u64 Lib.pow10Tab := by
  obtain ⟨T, z, h⟩ := h
  have hg : Tryd.prog.globalNamed "internal/strconv.uint64pow10" = some 2 := by kernel_rfl
  have := hφ _ _ h
  unfold Lib.TabIs World.var?
  rw [hg]
  simp only [Option.bind_some, this]
theorem PowP.of_tab {w : World} (h : Lib.TabIs Tryd.prog w "internal/strconv.uint64pow10" .u64 Lib.pow10Tab) : PowP (Phi.all w) := by
  have hg : Tryd.prog.globalNamed "internal/strconv.uint64pow10" = some 2 := by kernel_rfl
  unfold Lib.TabIs World.var? at h
  rw [hg] at h
  simp only [Option.bind_some] at h
  unfold PowP Phi.all
  split at h
  · next cs T z he => cases h; exact ⟨T, z, he⟩
  · cases h
theorem bgrow {B : Nat} {w w' : World} (h : Below B w w') (hB : B ≤ w'.heap.size) (os : Array Obj) : Below B w (Go.Sort.grow w' os) := by
  refine ⟨h.os, h.tape, h.output, ?_, fun b hb => ?_⟩
  · have := h.size; simp [Go.Sort.grow]; omega
  · have h1 := h.block b hb
    rw [← h1]
    show (w'.heap ++ os)[b]? = w'.heap[b]?
    rw [Array.getElem?_append_left (by omega)]
def itoaB (n : Int) : ByteArray := ⟨(Lib.itoa n).toArray⟩
theorem Itoa_any (n : Int) (h0 : -9223372036854775808 ≤ n) (h1 : n ≤ 9223372036854775807) (w : World) (φ : Phi) (hφ : Fz φ w) (hp : PowP φ) :
    Calls Tryd.prog 83 #[.int .i64 n] w (fun e w' => e = .returned (.string (itoaB n)) ∧ Below w.heap.size w w') := by
  refine (Any.strconv_Itoa Tryd.laysM171 n h0 h1 w (hp.tab hφ)).mono ?_
  rintro e w' ⟨rfl, k, os, rfl⟩
  exact ⟨rfl, bgrow (bdrewN (Below.refl _ _) k) (Nat.le_refl _) os⟩
theorem decDigits_small : ∀ (k u : Nat), u < 10 ^ (k + 1) → (Lib.decDigits u).length ≤ k + 1
  | 0, u, h => by rw [Lib.decDigits, dif_pos (by simpa using h)]; simp
  | k + 1, u, h => by
    rw [Lib.decDigits]
    split
    · simp
    · rw [List.length_append, List.length_singleton]
      have := decDigits_small k (u / 10) (by rw [Nat.pow_succ] at h; omega)
      omega
theorem itoaB_size {n : Int} (h0 : 0 ≤ n) (h1 : n < 100000000) : (itoaB n).size ≤ 8 := by
  show (Lib.itoa n).toArray.size ≤ 8
  rw [List.size_toArray, Lib.itoa, if_neg (by omega)]
  exact decDigits_small 7 _ (by omega)
end Go.Proofs.YtafcecgcmaoakaaDoor
