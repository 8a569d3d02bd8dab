/- strconv.Itoa: its numeral, where the library's table of powers of ten reads as it was laid. Conditions: that table (PowP). A strings.Builder that a call fills: its state, and WriteString's, Len's, String's contracts over it. Words for decimal texts as bytes. Conditions: the library's table of powers of ten reads as it was laid, where Itoa is called. Conditions: none beyond what the claim form gives. -/
import Derived.Test.YtnlhalnjbkpdnaaGreatDoorSh2
import Derived.Test.YtnlhalnjbkpdnaaGreatDoorLB
import Derived.Test.YtnlhalnjbkpdnaaGreatDoorSh1
import Derived.Shelf.Strings.BuilderK
import Derived.Shelf.Strings.BuilderF
import Derived.Deep.RegionHeld3
import Derived.Deep.RegionHeldLaw
import Derived.Test.YtnlhalnjbkpdnaaGreatDoorAB
namespace Go.Proofs.YtnlhalnjbkpdnaaGreatDoor
open Go.RowKit
set_option linter.unusedVariables false
set_option linter.unusedSimpArgs false
/-- The library's table of powers of ten, in the frozen heap. -/
def PowP (φ : Phi) : Prop := ∃ T z, φ 4 = some (.cells (Lib.pow10Tab.map fun z => Value.int .u64 z).toArray T z)
theorem PowP.mono {φ φ' : Phi} (h : PowP φ) (hl : φ.le φ') : PowP φ' := by obtain ⟨T, z, h⟩ := h; exact ⟨T, z, hl _ _ h⟩
theorem PowP.tab {φ : Phi} {w : World} (h : PowP φ) (hφ : Fz φ w) : Lib.TabIs Tryz.prog w "internal/strconv.uint64pow10" .u64 Lib.pow10Tab := by
  obtain ⟨T, z, h⟩ := h
  have hg : Tryz.prog.globalNamed "internal/strconv.uint64pow10" = some 4 := by kernel_rfl
  have := hφ _ _ h
  unfold Lib.TabIs World.var?
  rw [hg]
  simp only [Option.bind_some, this]
theorem PowP.of_tab {w : World} (h : Lib.TabIs Tryz.prog w "internal/strconv.uint64pow10" .u64 Lib.pow10Tab) : PowP (Phi.all w) := by
  have hg : Tryz.prog.globalNamed "internal/strconv.uint64pow10" = some 4 := by kernel_rfl
  unfold Lib.TabIs World.var? at h
  rw [hg] at h
  simp only [Option.bind_some] at h
  unfold PowP Phi.all
  split at h
  · next cs T z he => cases h; exact ⟨T, z, he⟩
  · cases h
theorem bgrow {B : Nat} {w w' : World} (h : Below B w w') (hB : B ≤ w'.heap.size) (os : Array Obj) : Below B w (Go.Sort.grow w' os) := by
  refine ⟨h.os, h.tape, h.output, ?_, fun b hb => ?_⟩
  · have := h.size; simp [Go.Sort.grow]; omega
  · have h1 := h.block b hb
    rw [← h1]
    show (w'.heap ++ os)[b]? = w'.heap[b]?
    rw [Array.getElem?_append_left (by omega)]
def itoaB (n : Int) : ByteArray := ⟨(Lib.itoa n).toArray⟩
theorem Itoa_any (n : Int) (h0 : -9223372036854775808 ≤ n) (h1 : n ≤ 9223372036854775807) (w : World) (φ : Phi) (hφ : Fz φ w) (hp : PowP φ) :
    Calls Tryz.prog 112 #[.int .i64 n] w (fun e w' => e = .returned (.string (itoaB n)) ∧ Below w.heap.size w w') := by
  refine (Any.strconv_Itoa Tryz.laysM171 n h0 h1 w (hp.tab hφ)).mono ?_
  rintro e w' ⟨rfl, k, os, rfl⟩
  exact ⟨rfl, bgrow (bdrewN (Below.refl _ _) k) (Nat.le_refl _) os⟩
end Go.Proofs.YtnlhalnjbkpdnaaGreatDoor

namespace Go.Proofs.YtnlhalnjbkpdnaaGreatDoor
open Go.RowKit
set_option linter.unusedVariables false
set_option linter.unusedSimpArgs false
section
variable {T e : TypeId} {B b : Nat} {bs : List Value} {w w' : World}
theorem bldAt_kept {p : Value} (h : Lib.BuilderAtF T e B b p bs w) (hk : ∀ (g : Nat) (cs : Array Value) (E : TypeId) (fz : Nat × Nat), w.heap[g]? = some (Obj.cells cs E fz) → (E = T ∨ E = e) → w'.heap[g]? = some (Obj.cells cs E fz)) : Lib.BuilderAtF T e B b p bs w' := by
  obtain ⟨hB, v, hbk, ⟨hl, hr⟩, hne⟩ := h
  refine ⟨hB, v, hk _ _ _ _ hbk (.inl rfl), ⟨hl, ?_⟩, hne⟩
  rcases hr with hr | ⟨g, cap, cur, fz, hv, hbg, hg, r⟩
  · exact .inl hr
  · exact .inr ⟨g, cap, cur, fz, hv, hbg, hk _ _ _ _ hg (.inr rfl), r⟩
theorem bld_kept (h : Lib.IsBuilderF T e B b bs w) (hk : ∀ (g : Nat) (cs : Array Value) (E : TypeId) (fz : Nat × Nat), w.heap[g]? = some (Obj.cells cs E fz) → (E = T ∨ E = e) → w'.heap[g]? = some (Obj.cells cs E fz)) : Lib.IsBuilderF T e B b bs w' :=
  h.imp (fun h => bldAt_kept h hk) (fun h => bldAt_kept h hk)
theorem bld_callB (h : Lib.IsBuilderF T e B b bs w) (hb : Below w.heap.size w w') : Lib.IsBuilderF T e B b bs w' :=
  bld_kept h (fun g cs E fz hg _ => (hb.block g (Array.getElem?_eq_some_iff.1 hg).1).trans hg)
theorem bld_lt (h : Lib.IsBuilderF T e B b bs w) : b < w.heap.size := by
  rcases h with ⟨_, v, hb, _⟩ | ⟨_, v, hb, _⟩
  · exact (Array.getElem?_eq_some_iff.1 hb).1
  · exact (Array.getElem?_eq_some_iff.1 hb).1
end
/-- A builder (block bb) that holds t; nothing from bb on is frozen. -/
structure TxSt (w0 : World) (φ : Phi) (bb : Nat) (t : ByteArray) (w : World) : Prop where
  inv : Inv w0.heap.size w0 φ φ w
  bld : Lib.IsBuilderF 163 5 bb bb (Lib.strCells t) w
  lo : w0.heap.size ≤ bb
  fr : ∀ b, bb ≤ b → φ b = none
section
variable {w0 w w' : World} {φ ψ : Phi} {bb bd : Nat} {t s : ByteArray} {ds : Array Value} {E : TypeId}
theorem TxSt.callB (h : TxSt w0 φ bb t w) (hb : Below w.heap.size w w') : TxSt w0 φ bb t w' := ⟨h.inv.callB hb, bld_callB h.bld hb, h.lo, h.fr⟩
theorem TxSt.lt (h : TxSt w0 φ bb t w) : bb < w.heap.size := bld_lt h.bld
theorem strCells_app (t s : ByteArray) : Lib.strCells t ++ Lib.strCells s = Lib.strCells (t ++ s) := by
  rw [Lib.strCells_eq, Lib.strCells_eq, Lib.strCells_eq, ← Lib.byteCells_append]
  congr 1
theorem TxSt.start (hi : Inv w0.heap.size w0 φ φ w) : TxSt w0 φ w.heap.size ⟨#[]⟩ (w.alloc (.cells #[.pointer none, .slice none 0 0] 163)) :=
  ⟨hi.alloc _, Lib.IsBuilderF.of (Lib.fresh_isBuilder _ _ w), hi.size, fun b hb => hi.fz.new_none hb⟩
theorem TxSt.below (h : TxSt w0 φ bb t w) (hb : Below bb w w') (hl : Lib.IsBuilderF 163 5 bb bb (Lib.strCells s) w') : TxSt w0 φ bb s w' := by
  refine ⟨⟨h.inv.bel.trans (hb.mono h.lo), h.inv.base, fun b o ho => ?_, φ.le_refl, fun _ _ => rfl⟩, hl, h.lo, h.fr⟩
  have hlt : b < bb := by
    rcases Nat.lt_or_ge b bb with q | q
    · exact q
    · rw [h.fr b q] at ho; cases ho
  exact (hb.block b hlt).trans (h.inv.fz b o ho)
theorem WriteString_any (h : TxSt w0 φ bb t w) (hsz : t.size + s.size ≤ 140737488355328) :
    Calls Tryz.prog 119 #[.pointer (some ⟨bb, 0, none⟩), .string s] w (fun e w' => e = .returned (.tuple #[.int .i64 s.size, .nilIface]) ∧ TxSt w0 φ bb (t ++ s) w' ∧ Lib.OthersKept 5 (some bb) w w') := by
  refine (Any.Builder_WriteString_k (ρ := Tryz.lays105_ren) { Tryz.lays105 with } Tryz.Builder_Extra_105 bb bb (Lib.strCells t) s w h.bld (by rw [Lib.strCells_length]; exact hsz) (Nat.le_of_lt h.lt)).mono ?_
  rintro e w' ⟨rfl, h1, h2, h3⟩
  refine ⟨rfl, h.below h2 (.inr ?_), h3⟩
  rw [← strCells_app]
  exact h1
theorem String_any (h : TxSt w0 φ bb t w) : Calls Tryz.prog 121 #[.pointer (some ⟨bb, 0, none⟩)] w (fun e w' => e = .returned (.string t) ∧ TxSt w0 φ bb t w') := by
  refine (Any.Builder_String_any_k Tryz.lays169 Tryz.Builder_Extra_169 bb bb t.data.toList w h.bld (Nat.le_of_lt h.lt)).mono ?_
  rintro e w' ⟨rfl, h1, h2, h3⟩
  exact ⟨rfl, h.below h2 h1⟩
end
end Go.Proofs.YtnlhalnjbkpdnaaGreatDoor

namespace Go.Proofs.YtnlhalnjbkpdnaaGreatDoor
open Go.RowKit
/-- Bytes as a text. -/
def bl (l : List UInt8) : ByteArray := ⟨l.toArray⟩
theorem bl_app (a b : List UInt8) : bl a ++ bl b = bl (a ++ b) := by
  apply ByteArray.ext
  simp [bl]
theorem bl_size (l : List UInt8) : (bl l).size = l.length := by simp [bl, ByteArray.size]
theorem bl_list (l : List UInt8) : (bl l).data.toList = l := rfl
theorem decB_bl (n : Nat) : decB n = bl (Lib.decDigits n) := rfl
theorem itoa_nat (x : Nat) : itoaB (x : Int) = bl (Lib.decDigits x) := by
  show (⟨(Lib.itoa (x : Int)).toArray⟩ : ByteArray) = _
  rw [Lib.itoa, if_neg (by omega)]
  simp [bl]
theorem dec_lim {x : Nat} (h : x < 1000000000) : (Lib.decDigits x).length ≤ 9 := dec_len 8 x (by omega)
theorem dec_pos (x : Nat) : 1 ≤ (Lib.decDigits x).length := by
  have := dec_ne x
  cases h : Lib.decDigits x with
  | nil => exact absurd h this
  | cons a l => simp
end Go.Proofs.YtnlhalnjbkpdnaaGreatDoor
