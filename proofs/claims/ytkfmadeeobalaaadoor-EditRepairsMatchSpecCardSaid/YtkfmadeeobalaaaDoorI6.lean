/- The walks of the reference's Impute and of the law EditImputesMatchSpec. Conditions: the library's table of blanks reads as it was laid. -/
import Derived.Test.YtkfmadeeobalaaaDoorI5
import Derived.Test.YtkfmadeeobalaaaDoorPl
namespace Go.Proofs.YtkfmadeeobalaaaDoor
open Go.RowKit
set_option linter.unusedVariables false
/-- Two repairs that read alike are the same. -/
theorem sameRepair_t {w : World} {φ : Phi} (hφ : Fz φ w) {a1 a2 a3 a4 : Option Addr} {c1 c2 c3 c4 n1 n2 : Nat} {x y : List Int} {dn : Int} (s1 : SlV φ a1 c1 x) (s2 : SlV φ a2 c2 y) (s3 : SlV φ a3 c3 x) (s4 : SlV φ a4 c4 y) (h1 : Hid (x.length = n1)) (h2 : Hid (y.length = n2)) :
    Calls Tryd.prog 9 #[.agg #[.slice a1 n1 c1, .slice a2 n2 c2, .int .i64 dn], .agg #[.slice a3 n1 c3, .slice a4 n2 c4, .int .i64 dn]] w (fun e w' => e = .returned (.bool true) ∧ Below w.heap.size w w') := by
  have m1 := s1.len
  have m2 := s2.len
  rw [h1.out] at m1
  rw [h2.out] at m2
  have hd : (dn == dn) = true := by simp
  have hB := Lib.hid (((Below.refl w.heap.size w).alloc (Nat.le_refl _) (.cells #[.slice a1 n1 c1, .slice a2 n2 c2, .int .i64 dn] 34)).alloc (by simp) (.cells #[.slice a3 n1 c3, .slice a4 n2 c4, .int .i64 dn] 34))
  have K1 := Lib.hid ((Blk.new w #[.slice a1 n1 c1, .slice a2 n2 c2, .int .i64 dn] 34).alloc (.cells #[.slice a3 n1 c3, .slice a4 n2 c4, .int .i64 dn] 34))
  have K2 := Lib.hid (Blk.new (w.alloc (.cells #[.slice a1 n1 c1, .slice a2 n2 c2, .int .i64 dn] 34)) #[.slice a3 n1 c3, .slice a4 n2 c4, .int .i64 dn] 34)
  rw [alloc_size] at K2
  have HF := Lib.hid (hφ.below hB.out)
  go_enter Tryd.func9, Tryd.ntmps9
  go_wp2_with fail
  refine (Equal_t n1 a1 c1 x a3 c3 _ φ φ HF.out HF.out s1 h1 m1 s3).mono ?_
  rintro e w1 ⟨rfl, hb1⟩
  have y1 : w1.cell? ⟨w.heap.size, 1, none⟩ = some (.slice a2 n2 c2) := (K1.out.callB hb1).cell 1
  have y2 : w1.cell? ⟨w.heap.size + 1, 1, none⟩ = some (.slice a4 n2 c4) := (K2.out.callB hb1).cell 1
  have HB1 := Lib.hid hb1
  clear hb1
  go_wp2_with fail
  refine (Equal_t n2 a2 c2 y a4 c4 w1 φ φ (HF.out.below HB1.out) (HF.out.below HB1.out) s2 h2 m2 s4).mono ?_
  rintro e w2 ⟨rfl, hb2⟩
  have z1 : w2.cell? ⟨w.heap.size, 2, none⟩ = some (.int .i64 dn) := ((K1.out.callB HB1.out).callB hb2).cell 2
  have z2 : w2.cell? ⟨w.heap.size + 1, 2, none⟩ = some (.int .i64 dn) := ((K2.out.callB HB1.out).callB hb2).cell 2
  have HB2 := Lib.hid hb2
  clear hb2 y1 y2
  go_wp2
  go_ret
  have hs1 := hB.out.size
  have hs2 := HB1.out.size
  exact ⟨rfl, (hB.out.trans (HB1.out.mono hs1)).trans (HB2.out.mono (Nat.le_trans hs1 hs2))⟩
end Go.Proofs.YtkfmadeeobalaaaDoor
