/- The walk of keyText. Conditions: the library's table of powers of ten reads as it was laid. -/
import Derived.Test.YtkfmadeeobalaaaDoorD3
import Derived.Test.YtkfmadeeobalaaaDoorBld
import Derived.Test.YtkfmadeeobalaaaDoorI4
import Derived.Shelf.Strings.BuilderK
namespace Go.Proofs.YtkfmadeeobalaaaDoor
open Go.RowKit
set_option linter.unusedVariables false
/-- WriteByte's laying, by the laying of Join. -/
def wbRen : Go.Shelf.Ren := ⟨fun n => if n = 167 then 123 else Tryd.lays156_ren.f n, Tryd.lays156_ren.t, Tryd.lays156_ren.g⟩
set_option maxRecDepth 100000 in
theorem wbLays : Go.Proofs.Lays.n167 Tryd.prog wbRen := { Tryd.lays156 with
  mixed := by kernel_rfl
  f167 := Tryd.func123.trans (congrArg some (by kernel_rfl))
  f240 := Tryd.lays156.f240.trans (congrArg some (by kernel_rfl))
  f276 := Tryd.lays156.f276.trans (congrArg some (by kernel_rfl))
  t5 := Tryd.underlying5
  a5 := Tryd.isAgg5
  z5 := Tryd.sizeOf5
  v5 := Tryd.zeroValue5 }
set_option maxRecDepth 100000 in
theorem wbExtra : Builder.Extra Tryd.prog wbRen := {
  sizeBuilder := by kernel_rfl
  liesBuilder := by kernel_rfl
  t5 := Tryd.underlying5
  a5 := Tryd.isAgg5
  z5 := Tryd.sizeOf5
  v5 := Tryd.zeroValue5
  infoByte := by kernel_rfl
  cellsByte := by kernel_rfl
  sizeByte := by kernel_rfl
  neB5 := by decide }
theorem WriteByte_any {w0 w : World} {φ : Phi} {bb : Nat} {t : ByteArray} (h : TxSt w0 φ bb t w) (hsz : t.size + 1 ≤ 140737488355328) (c : UInt8) :
    Calls Tryd.prog 123 #[.pointer (some ⟨bb, 0, none⟩), .int .u8 (c.toNat : Int)] w (fun e w' => e = .returned .nilIface ∧ TxSt w0 φ bb (t ++ ⟨#[c]⟩) w') := by
  refine (Any.Builder_WriteByte_k (ρ := wbRen) wbLays wbExtra bb bb (Lib.strCells t) (c.toNat : Int) w h.bld (by rw [Lib.strCells_length]; exact hsz) (Nat.le_of_lt h.lt)).mono ?_
  rintro e w' ⟨rfl, h1, h2, h3⟩
  refine ⟨rfl, h.below h2 (.inr ?_)⟩
  rw [← strCells_app]
  exact h1
theorem WriteDot_any {w0 w : World} {φ : Phi} {bb : Nat} {t : ByteArray} (h : TxSt w0 φ bb t w) (hsz : t.size + 1 ≤ 140737488355328) :
    Calls Tryd.prog 123 #[.pointer (some ⟨bb, 0, none⟩), .int .u8 46] w (fun e w' => e = .returned .nilIface ∧ TxSt w0 φ bb (t ++ ⟨#[46]⟩) w') := WriteByte_any h hsz 46
set_option maxHeartbeats 1000000 in
theorem keyText_any (nm : ByteArray) (nr : Nat) (ar : Option Addr) (cr : Nat) (row : List Int) (w : World) (φ : Phi) (hφ : Fz φ w) (hp : PowP φ) (sr : SlV φ ar cr row) (hrl : Hid (row.length = nr)) (hr3 : nr ≤ 3) (hro : Hid (∀ n ∈ row, 1 ≤ n ∧ n ≤ 999)) (hsz : nm.size ≤ 16) {t : ByteArray} (ht : Hid (keyB (nm, row) = t)) :
    Calls Tryd.prog 90 #[.agg #[.string nm, .slice ar nr cr]] w (fun e w' => e = .returned (.string t) ∧ Below w.heap.size w w') := by
  obtain ⟨φ1, le1, i1, k1⟩ := (Inv.start hφ).frz (.cells #[.string nm, .slice ar nr cr] 50)
  have hT0 := Lib.hid (TxSt.start i1.toSelf)
  rw [alloc_size] at hT0
  have HBX := Lib.hid (fun (w' : World) (hf : Fz φ1 w') => (hf.blk k1))
  have HPW := Lib.hid (hp.mono le1)
  have SR := Lib.hid (sr.mono le1)
  have HSZ := Lib.hid (keyK_size nm row hro.out)
  rw [hrl.out] at HSZ
  have p0 : ((w.alloc (.cells #[.string nm, .slice ar nr cr] 50)).alloc (.cells #[.pointer none, .slice none 0 0] 99)).cell? ⟨w.heap.size, 0, none⟩ = some (.string nm) := (HBX.out _ hT0.out.inv.fz).cell 0
  clear i1 k1 le1 hp
  go_enter Tryd.func90, Tryd.ntmps90
  go_wp2_with fail
  clear p0
  refine (WriteString_any hT0.out (by show 0 + nm.size ≤ _; omega)).mono ?_
  rintro e w1 ⟨rfl, h1, _⟩
  have e0 : (⟨#[]⟩ : ByteArray) ++ nm = nm := by apply ByteArray.ext; simp
  rw [e0] at h1
  generalize hbp : w.heap.size = bp at *
  replace hbp := Lib.hid hbp
  have H1 : Hid (TxSt w φ1 (bp + 1) (keyK nm row 0) w1) := Lib.hid h1
  have p1 : w1.cell? ⟨bp, 1, none⟩ = some (.slice ar nr cr) := (HBX.out _ h1.inv.fz).cell 1
  clear h1 hT0 e0
  go_wp2
  generalize bp + 1 = bb at *
  clear p1
  go_loopw [12] (fun i wr => ∃ k : Nat, k ≤ nr ∧ i = .int .i64 k ∧ Hid (TxSt w φ1 bb (keyK nm row k) wr)) (fun i _ => nr - (intOf i).toNat)
  case atStart => exact ⟨0, Nat.zero_le _, rfl, H1⟩
  case round =>
    clear H1
    obtain ⟨k, hk, rfl, hS⟩ := hrel
    by_cases hlt : k < nr
    · obtain ⟨b1, o1, rfl, f1⟩ := SR.out.intsD hrl hlt
      have d1 := (f1 k hlt wr hS.out.inv.fz).2
      have hx := hro.out (row.getD k 0) (by rw [getD_elem0 _ _ _ (by rw [hrl.out]; exact hlt)]; exact List.getElem_mem _)
      have hs1 := HSZ.out k (by omega)
      have hnx : Hid (keyK nm row (k + 1) = (keyK nm row k ++ ⟨#[46]⟩) ++ itoaB (row.getD k 0)) := Lib.hid rfl
      have hx1 := hx.1
      have hx2 := hx.2
      have HI8 := Lib.hid (itoaB_size (n := row.getD k 0) (by omega) (by omega))
      clear f1 hx
      generalize row.getD k 0 = x at *
      generalize hT : keyK nm row k = t1 at *
      clear hT
      have hd1 : (⟨#[46]⟩ : ByteArray).size = 1 := rfl
      go_wp2_with (first
        | (go_at_call 123; refine (WriteDot_any hS.out (by omega)).mono ?_; rintro e w5 ⟨rfl, h5⟩; have H5 := Lib.hid h5; clear h5)
        | (go_at_call 28; refine (Itoa_any x (by omega) (by omega) w5 φ1 H5.out.inv.fz HPW.out).mono ?_; rintro e w6 ⟨rfl, hb6⟩; have H6 := Lib.hid (H5.out.callB hb6); clear hb6)
        | (go_at_call 53; refine (WriteString_any H6.out (by rw [ByteArray.size_append, hd1]; have := HI8.out; omega)).mono ?_; rintro e w7 ⟨rfl, h7, _⟩; have H7 := Lib.hid h7; clear h7))
      go_roundw
      case rel => exact ⟨k + 1, by omega, by go_num, by rw [hnx.out]; exact H7⟩
      case measure => (simp [intOf] <;> omega)
    · obtain rfl : k = nr := by omega
      have HK : Hid (keyK nm row k = t) := Lib.hid (by rw [← ht.out, keyB, hrl.out])
      rw [HK.out] at hS
      go_wp2_with (go_at_call 57; refine (String_any hS.out).mono ?_; rintro e w8 ⟨rfl, h8⟩; have H8 := Lib.hid h8; clear h8)
      go_ret
      exact ⟨rfl, H8.out.inv.bel⟩
end Go.Proofs.YtkfmadeeobalaaaDoor
