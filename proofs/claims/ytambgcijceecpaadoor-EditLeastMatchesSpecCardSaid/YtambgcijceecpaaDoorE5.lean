/- Bits. Conditions: none. -/
import Derived.Test.YtambgcijceecpaaDoorE4
namespace Go.Proofs.YtambgcijceecpaaDoor
open Go.RowKit
set_option linter.unusedVariables false

theorem bits_or32 {x k : Nat} (hx : x < 4294967296) (hk : k < 32) : bits .or .u32 (x : Int) ((2 : Int) ^ k % 4294967296) = ((x ||| 2 ^ k : Nat) : Int) := by
  have hp : 2 ^ k < 2 ^ 32 := Nat.pow_lt_pow_right (by decide) hk
  have h : x ||| 2 ^ k < 2 ^ 32 := Nat.or_lt_two_pow hx hp
  have hp2 : ((2 : Int) ^ k) = ((2 ^ k : Nat) : Int) := by simp
  have hp' : 2 ^ k < 4294967296 := hp
  have h' : x ||| 2 ^ k < 4294967296 := h
  rw [hp2]
  generalize 2 ^ k = y at *
  have e : (BitVec.ofInt 32 (x : Int) ||| BitVec.ofInt 32 ((y : Int) % 4294967296)).toNat = x ||| y := by
    rw [BitVec.toNat_or, BitVec.toNat_ofInt, BitVec.toNat_ofInt]
    congr 1 <;> omega
  show IntKind.u32.wrap ((BitVec.ofInt 32 (x : Int) ||| BitVec.ofInt 32 ((y : Int) % 4294967296)).toNat : Int) = _
  rw [e]
  simp [IntKind.wrap, IntKind.bits, IntKind.signed]
  omega
theorem bits_and1 {x : Nat} (hx : x < 4294967296) : bits .and .u32 (x : Int) 1 = ((x % 2 : Nat) : Int) := by
  have e : (BitVec.ofInt 32 (x : Int) &&& BitVec.ofInt 32 1).toNat = x % 2 := by
    rw [BitVec.toNat_and, BitVec.toNat_ofInt, BitVec.toNat_ofInt]
    have h1 : ((x : Int) % ((2 ^ 32 : Nat) : Int)).toNat = x := by omega
    have h2 : ((1 : Int) % ((2 ^ 32 : Nat) : Int)).toNat = 1 := by decide
    rw [h1, h2, Nat.and_one_is_mod]
  show IntKind.u32.wrap ((BitVec.ofInt 32 (x : Int) &&& BitVec.ofInt 32 1).toNat : Int) = _
  rw [e]
  simp [IntKind.wrap, IntKind.bits, IntKind.signed]
  omega
end Go.Proofs.YtambgcijceecpaaDoor
