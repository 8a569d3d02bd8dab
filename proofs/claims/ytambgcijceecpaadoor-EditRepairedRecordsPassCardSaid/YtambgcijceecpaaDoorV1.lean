/- The walks of value.Shuffle and of what it calls. Conditions: none beyond what the claim form gives. -/
import Derived.Test.YtambgcijceecpaaDoorEA
import Derived.Test.YtambgcijceecpaaDoorLB
import Derived.StillTailTactics
namespace Go.Proofs.YtambgcijceecpaaDoor
open Go.RowKit
set_option linter.unusedVariables false
/-- A stream's state, a step on; the number at a state. -/
def stepU (x : Int) : Int := IntKind.u64.wrap (x + 11400714819323198485)
def mixA (z : Int) : Int := IntKind.u64.wrap (bits .xor .u64 z (z / 1073741824) * 13787848793156543929)
def mixB (z : Int) : Int := IntKind.u64.wrap (bits .xor .u64 (mixA z) (mixA z / 134217728) * 10723151780598845931)
def mixU (z : Int) : Int := bits .xor .u64 (mixB z) (mixB z / 2147483648)
theorem u64_rng (n : Int) : 0 ≤ IntKind.u64.wrap n ∧ IntKind.u64.wrap n < 18446744073709551616 := by
  simp [IntKind.wrap, IntKind.bits, IntKind.signed]
  omega
theorem xor_rng (x y : Int) : 0 ≤ bits .xor .u64 x y ∧ bits .xor .u64 x y < 18446744073709551616 := by
  show 0 ≤ IntKind.u64.wrap _ ∧ IntKind.u64.wrap _ < _
  exact u64_rng _
theorem mixU_rng (z : Int) : 0 ≤ mixU z ∧ mixU z < 18446744073709551616 := xor_rng _ _
/-- The state behind k steps. -/
def stK (x : Int) : Nat → Int
  | 0 => x
  | k + 1 => stepU (stK x k)
/-- The state that a seed gives, byte by byte. -/
def hashK (s : ByteArray) : Nat → Int
  | 0 => 14695981039346656037
  | k + 1 => IntKind.u64.wrap (bits .xor .u64 (hashK s k) (byt s k) * 1099511628211)
theorem hashK_rng (s : ByteArray) : ∀ k, 0 ≤ hashK s k ∧ hashK s k < 18446744073709551616
  | 0 => by show (0 : Int) ≤ 14695981039346656037 ∧ (14695981039346656037 : Int) < 18446744073709551616; decide
  | k + 1 => by rw [hashK]; exact u64_rng _
theorem stK_rng {x : Int} (h : 0 ≤ x ∧ x < 18446744073709551616) : ∀ k, 0 ≤ stK x k ∧ stK x k < 18446744073709551616
  | 0 => h
  | k + 1 => by rw [stK]; exact u64_rng _
theorem src1_any {w : World} {b : Nat} {x : Int} (hb : Blk w b #[.int .u64 x] 132) (h0 : 0 ≤ x ∧ x < 18446744073709551616) :
    Calls Tryd.prog 106 #[.pointer (some ⟨b, 0, none⟩)] w (fun e w' => e = .returned (.int .u64 (mixU (stepU x))) ∧ w' = w.setCell ⟨b, 0, none⟩ (.int .u64 (stepU x))) := by
  have p0 : w.cell? ⟨b, 0, none⟩ = some (.int .u64 x) := hb.cell 0
  have p1 : w.frozen? ⟨b, 0, none⟩ = false := hb.frz 0
  go_enter Tryd.func106, Tryd.ntmps106
  go_wp2
  go_ret
  exact ⟨rfl, rfl⟩
theorem voutside_b (n lo hi : Int) (w : World) {b : Bool} (h : outB n lo hi = b) :
    Calls Tryd.prog 95 #[.int .i64 n, .int .i64 lo, .int .i64 hi] w fun e w' => e = .returned (.bool b) ∧ w = w' := by
  subst h
  go_enter Tryd.func95, Tryd.ntmps95
  by_cases h : n < lo
  · go_wp2
    go_ret
    exact ⟨by simp [outB, h], rfl⟩
  · go_wp2
    go_ret
    exact ⟨by simp [outB]; omega, rfl⟩
/-- What source hands back: its closure, with the state that the seed gives. -/
def SrcPost (h : Int) (φ : Phi) (w : World) (e : Ending) (w' : World) : Prop :=
  ∃ b, e = .returned (.func (.func 106) #[] #[.pointer (some ⟨b, 0, none⟩)]) ∧ Inv w.heap.size w φ φ w' ∧ Blk w' b #[.int .u64 h] 132 ∧ w.heap.size ≤ b ∧ φ b = none
set_option maxRecDepth 100000 in
theorem source_any (s : ByteArray) (w : World) (φ : Phi) (hφ : Fz φ w) (hs : s.size ≤ 9223372036854775806) :
    Calls Tryd.prog 96 #[.string s] w (SrcPost (hashK s s.size) φ w) := by
  have hS0 : Hid (Inv w.heap.size w φ φ (w.alloc (.cells #[.int .u64 14695981039346656037] 132)) ∧ Blk (w.alloc (.cells #[.int .u64 14695981039346656037] 132)) w.heap.size #[.int .u64 (hashK s 0)] 132) := Lib.hid ⟨(Inv.start hφ).alloc _, Blk.new w _ _⟩
  have hn : φ w.heap.size = none := by
    cases h : φ w.heap.size with
    | none => rfl
    | some o => have := hφ.mlt h; omega
  go_enter Tryd.func96, Tryd.ntmps96
  go_wp2
  generalize w.alloc (.cells #[.int .u64 14695981039346656037] 132) = W at *
  generalize hbx : w.heap.size = bx at *
  replace hbx := Lib.hid hbx
  go_loopw [4] (fun i wr => ∃ k : Nat, k ≤ s.size ∧ i = .int .i64 k ∧ Hid (Inv bx w φ φ wr ∧ Blk wr bx #[.int .u64 (hashK s k)] 132)) (fun i _ => s.size - (intOf i).toNat)
  case atStart => exact ⟨0, Nat.zero_le _, rfl, hS0⟩
  case round =>
    clear hS0
    obtain ⟨k, hk, rfl, hS⟩ := hrel
    by_cases hlt : k < s.size
    · have hb := byt_bd s k
      have hek := Lib.hid (byt_eq s k hlt)
      have hd0 : ((s[k]'hlt).toNat : Int) < 256 := by rw [← hek.out]; omega
      have hd1 : 0 ≤ ((s[k]'hlt).toNat : Int) := by omega
      have p0 : wr.cell? ⟨bx, 0, none⟩ = some (.int .u64 (hashK s k)) := hS.out.2.cell 0
      have p1 : wr.frozen? ⟨bx, 0, none⟩ = false := hS.out.2.frz 0
      have hh := hashK_rng s k
      have HN : Hid (hashK s (k + 1) = IntKind.u64.wrap (bits .xor .u64 (hashK s k) ((s[k]'hlt).toNat : Int) * 1099511628211)) := Lib.hid (by rw [hashK, hek.out])
      generalize hashK s k = h at *
      go_wp2
      go_still_tail 7, (by kernel_rfl)
      change wpList _ _ _ _ _ wr.drew
      go_wp2
      go_roundw
      case rel => exact ⟨k + 1, by omega, by go_num, Lib.hid ⟨(hS.out.1.drewN 1).setCell (by rw [← hbx.out]; exact Nat.le_refl _) hn _, by rw [HN.out]; exact (hS.out.2.drewN 1).set 0 _⟩⟩
      case measure => simp [intOf]; omega
    · obtain rfl : k = s.size := by omega
      go_wp2
      go_ret
      exact ⟨bx, rfl, by rw [hbx.out]; exact hS.out.1, hS.out.2, by rw [hbx.out]; exact Nat.le_refl _, hn⟩
end Go.Proofs.YtambgcijceecpaaDoor
