/- Data that read alike are the same: the walks of Lists, Compare, sameGiven, EqualFunc. Conditions: none beyond what the claim form gives. -/
import Derived.Test.YtkfmadeeobalaaaDoorD16
import Derived.Test.YtkfmadeeobalaaaDoorSh4
namespace Go.Proofs.YtkfmadeeobalaaaDoor
open Go.RowKit
set_option linter.unusedVariables false
theorem compareBytes_self : ∀ l : List UInt8, Lib.compareBytes l l = 0
  | [] => rfl
  | c :: l => by
    rw [Lib.compareBytes]
    simp [compareBytes_self l]
theorem sign_t (x : Int) (w : World) : Calls Tryd.prog 95 #[.int .i64 x, .int .i64 x] w (fun e w' => e = .returned (.int .i64 0) ∧ w = w') := by
  have h1 : ¬ x < x := by omega
  go_enter Tryd.func95, Tryd.ntmps95
  go_wp2
  go_ret
  exact ⟨rfl, rfl⟩
theorem Lists_t (n : Nat) (a1 : Option Addr) (c1 : Nat) (xs : List Int) (a2 : Option Addr) (c2 : Nat) (w : World) (φ : Phi) (hφ : Fz φ w) (s1 : SlV φ a1 c1 xs) (hn : Hid (xs.length = n)) (s2 : SlV φ a2 c2 xs) :
    Calls Tryd.prog 97 #[.slice a1 n c1, .slice a2 n c2] w (fun e w' => e = .returned (.int .i64 0) ∧ Below w.heap.size w w') := by
  have hm := s1.len
  rw [hn.out] at hm
  go_enter Tryd.func97, Tryd.ntmps97
  go_wp2
  go_loopw [5] (fun i wr => ∃ k : Nat, k ≤ n ∧ i = .int .i64 k ∧ Hid (Below w.heap.size w wr)) (fun i _ => n - (intOf i).toNat)
  case atStart => exact ⟨0, Nat.zero_le _, rfl, Lib.hid (Below.refl _ _)⟩
  case round =>
    obtain ⟨k, hk, rfl, hB⟩ := hrel
    by_cases hlt : k < n
    · obtain ⟨b1, o1, rfl, f1⟩ := s1.intsD hn hlt
      have d1 := (f1 k hlt wr (hφ.below hB.out)).2
      obtain ⟨b2, o2, rfl, f2⟩ := s2.intsD hn hlt
      have d2 := (f2 k hlt wr (hφ.below hB.out)).2
      have hBd : Hid (Below w.heap.size w wr.drew) := Lib.hid (bdrewN hB.out 1)
      clear f1 f2
      generalize xs.getD k 0 = x at *
      have hlk : decide ((k : Int) < (n : Int)) = true := by simp; omega
      go_wp2
      go_region_with (go_at_call 95; refine (sign_t x _).mono ?_; rintro e w' ⟨rfl, rfl⟩)
      all_goals go_wp2
      all_goals go_roundw
      all_goals first
        | exact ⟨⟨k + 1, by omega, by go_num, hBd⟩, by simp [intOf]; omega⟩
        | (case rel => exact ⟨k + 1, by omega, by go_num, hBd⟩)
        | (case measure => (simp [intOf] <;> omega))
    · obtain rfl : k = n := by omega
      go_wp2_with (go_at_call 95; refine (sign_t _ _).mono ?_; rintro e w' ⟨rfl, rfl⟩)
      go_ret
      exact ⟨rfl, hB.out⟩
set_option maxHeartbeats 1000000 in
theorem Compare_t {w : World} {φ : Phi} (hφ : Fz φ w) (kd nn : Int) (sv : ByteArray) (ns : Nat) {a1 a2 : Option Addr} {c1 c2 : Nat} {set : List Int} (s1 : SlV φ a1 c1 set) (s2 : SlV φ a2 c2 set) (hns : Hid (set.length = ns)) :
    Calls Tryd.prog 52 #[.agg #[.int .i64 kd, .int .i64 nn, .string sv, .slice a1 ns c1], .agg #[.int .i64 kd, .int .i64 nn, .string sv, .slice a2 ns c2]] w (fun e w' => e = .returned (.int .i64 0) ∧ Below w.heap.size w w') := by
  have hB := Lib.hid (((Below.refl w.heap.size w).alloc (Nat.le_refl _) (.cells #[.int .i64 kd, .int .i64 nn, .string sv, .slice a1 ns c1] 52)).alloc (by simp) (.cells #[.int .i64 kd, .int .i64 nn, .string sv, .slice a2 ns c2] 52))
  have HF := Lib.hid (hφ.below hB.out)
  have hc0 : Hid (Lib.compareBytes sv.data.toList sv.data.toList = 0) := Lib.hid (compareBytes_self _)
  go_enter Tryd.func52, Tryd.ntmps52
  go_wp2_with (first
    | (go_at_call 95; refine (sign_t _ _).mono ?_; rintro e w' ⟨rfl, rfl⟩)
    | (go_at_call 96; refine (Any.strings_Compare Tryd.lays106 sv sv _).mono ?_; rintro e w' ⟨rfl, rfl⟩; rw [hc0.out])
    | (go_at_call 97; refine (Lists_t ns a1 c1 set a2 c2 _ φ HF.out s1 hns s2).mono ?_; rintro e w3 ⟨rfl, hb3⟩))
  go_ret
  exact ⟨rfl, hB.out.trans (hb3.mono hB.out.size)⟩
set_option maxHeartbeats 1000000 in
theorem sameGiven_t {w : World} {φ : Phi} (hφ : Fz φ w) (nm : ByteArray) (nr : Nat) {r1 r2 : Option Addr} {e1 e2 : Nat} {row : List Int} (q1 : SlV φ r1 e1 row) (q2 : SlV φ r2 e2 row) (hnr : Hid (row.length = nr)) (kd nn : Int) (sv : ByteArray) (ns : Nat) {a1 a2 : Option Addr} {c1 c2 : Nat} {set : List Int} (s1 : SlV φ a1 c1 set) (s2 : SlV φ a2 c2 set) (hns : Hid (set.length = ns)) :
    Calls Tryd.prog 18 #[.agg #[.string nm, .slice r1 nr e1, .int .i64 kd, .int .i64 nn, .string sv, .slice a1 ns c1], .agg #[.string nm, .slice r2 nr e2, .int .i64 kd, .int .i64 nn, .string sv, .slice a2 ns c2]] w (fun e w' => e = .returned (.bool true) ∧ Below w.heap.size w w') := by
  have hB := Lib.hid (((Below.refl w.heap.size w).alloc (Nat.le_refl _) (.cells #[.string nm, .slice r1 nr e1, .int .i64 kd, .int .i64 nn, .string sv, .slice a1 ns c1] 54)).alloc (by simp) (.cells #[.string nm, .slice r2 nr e2, .int .i64 kd, .int .i64 nn, .string sv, .slice a2 ns c2] 54))
  have HF := Lib.hid (hφ.below hB.out)
  have K1 := Lib.hid ((Blk.new w #[.string nm, .slice r1 nr e1, .int .i64 kd, .int .i64 nn, .string sv, .slice a1 ns c1] 54).alloc (.cells #[.string nm, .slice r2 nr e2, .int .i64 kd, .int .i64 nn, .string sv, .slice a2 ns c2] 54))
  have K2 := Lib.hid (Blk.new (w.alloc (.cells #[.string nm, .slice r1 nr e1, .int .i64 kd, .int .i64 nn, .string sv, .slice a1 ns c1] 54)) #[.string nm, .slice r2 nr e2, .int .i64 kd, .int .i64 nn, .string sv, .slice a2 ns c2] 54)
  rw [alloc_size] at K2
  have hs := str_eq_t (rfl : nm = nm)
  have m1 := q1.len
  rw [hnr.out] at m1
  go_enter Tryd.func18, Tryd.ntmps18
  go_wp2_with fail
  refine (Equal_t nr r1 e1 row r2 e2 _ φ φ HF.out HF.out q1 hnr m1 q2).mono ?_
  rintro e w3 ⟨rfl, hb3⟩
  have HB3 := Lib.hid (hB.out.trans (hb3.mono hB.out.size))
  have K13 := Lib.hid (K1.out.callB hb3)
  have K23 := Lib.hid (K2.out.callB hb3)
  have y2 : w3.cell? ⟨w.heap.size, 2, none⟩ = some (.int .i64 kd) := K13.out.cell 2
  have y3 : w3.cell? ⟨w.heap.size, 3, none⟩ = some (.int .i64 nn) := K13.out.cell 3
  have y4 : w3.cell? ⟨w.heap.size, 4, none⟩ = some (.string sv) := K13.out.cell 4
  have y5 : w3.cell? ⟨w.heap.size, 5, none⟩ = some (.slice a1 ns c1) := K13.out.cell 5
  have z2 : w3.cell? ⟨w.heap.size + 1, 2, none⟩ = some (.int .i64 kd) := K23.out.cell 2
  have z3 : w3.cell? ⟨w.heap.size + 1, 3, none⟩ = some (.int .i64 nn) := K23.out.cell 3
  have z4 : w3.cell? ⟨w.heap.size + 1, 4, none⟩ = some (.string sv) := K23.out.cell 4
  have z5 : w3.cell? ⟨w.heap.size + 1, 5, none⟩ = some (.slice a2 ns c2) := K23.out.cell 5
  clear hb3
  go_wp2_with fail
  refine (Compare_t (hφ.below HB3.out) kd nn sv ns s1 s2 hns).mono ?_
  rintro e w4 ⟨rfl, hb4⟩
  go_wp2
  go_ret
  exact ⟨rfl, HB3.out.trans (hb4.mono HB3.out.size)⟩
set_option maxHeartbeats 1000000 in
theorem EqualGiv_t (n : Nat) (a1 : Option Addr) (c1 : Nat) (xs : List Giv) (a2 : Option Addr) (c2 : Nat) (w : World) (φ : Phi) (hφ : Fz φ w) (s1 : SlV φ a1 c1 xs) (hn : Hid (xs.length = n)) (hm : n ≤ 9223372036854775807) (s2 : SlV φ a2 c2 xs) :
    Calls Tryd.prog 17 #[.slice a1 n c1, .slice a2 n c2, .func (.func 18) #[] #[]] w (fun e w' => e = .returned (.bool true) ∧ Below w.heap.size w w') := by
  have hb1 : ((n : Int) != n) = false := by simp
  go_enter Tryd.func17, Tryd.ntmps17
  go_wp2
  clear hb1
  go_loopw [17] (fun i wr => ∃ k : Nat, k ≤ n ∧ i = .int .i64 k ∧ Hid (Below w.heap.size w wr)) (fun i _ => n - (intOf i).toNat)
  case atStart => exact ⟨0, Nat.zero_le _, rfl, Lib.hid (Below.refl _ _)⟩
  case round =>
    obtain ⟨k, hk, rfl, hB⟩ := hrel
    by_cases hlt : k < n
    · obtain ⟨b1, o1, rfl, f1⟩ := s1.givD hn hlt
      obtain ⟨r1, e1, x1, x2, t1, t2, f1⟩ := f1 k hlt
      obtain ⟨_, d0, d1, d2, d3, d4, d5⟩ := f1 wr (hφ.below hB.out)
      obtain ⟨b2, o2, rfl, f2⟩ := s2.givD hn hlt
      obtain ⟨r2, e2, y1, y2, u1, u2, f2⟩ := f2 k hlt
      clear f1
      generalize xs.getD k giv0 = q at *
      obtain ⟨⟨nm, row⟩, kd, nn, sv, set⟩ := q
      dsimp only at t1 t2 u1 u2 d0 d1 d2 d3 d4 d5 f2
      obtain ⟨nr, hnr⟩ : ∃ j, Hid (row.length = j) := ⟨_, Lib.hid rfl⟩
      obtain ⟨ns, hns⟩ : ∃ j, Hid (set.length = j) := ⟨_, Lib.hid rfl⟩
      rw [hnr.out] at d1 f2
      rw [hns.out] at d5 f2
      obtain ⟨_, g0, g1, g2, g3, g4, g5⟩ := f2 (wr.alloc (.cells #[.string nm, .slice r1 nr e1, .int .i64 kd, .int .i64 nn, .string sv, .slice x1 ns x2] 54)) ((hφ.below hB.out).alloc _)
      have K1 := Blk.new wr #[.string nm, .slice r1 nr e1, .int .i64 kd, .int .i64 nn, .string sv, .slice x1 ns x2] 54
      have K2 := K1.alloc (.cells #[.string nm, .slice r2 nr e2, .int .i64 kd, .int .i64 nn, .string sv, .slice y1 ns y2] 54)
      have K3 := Blk.new (wr.alloc (.cells #[.string nm, .slice r1 nr e1, .int .i64 kd, .int .i64 nn, .string sv, .slice x1 ns x2] 54)) #[.string nm, .slice r2 nr e2, .int .i64 kd, .int .i64 nn, .string sv, .slice y1 ns y2] 54
      rw [alloc_size] at K3
      have p0 := K2.cell 0
      have p1 := K2.cell 1
      have p2 := K2.cell 2
      have p3 := K2.cell 3
      have p4 := K2.cell 4
      have p5 := K2.cell 5
      have q0 := K3.cell 0
      have q1 := K3.cell 1
      have q2 := K3.cell 2
      have q3 := K3.cell 3
      have q4 := K3.cell 4
      have q5 := K3.cell 5
      have HB2 := Lib.hid ((hB.out.alloc hB.out.size (.cells #[.string nm, .slice r1 nr e1, .int .i64 kd, .int .i64 nn, .string sv, .slice x1 ns x2] 54)).alloc (by rw [alloc_size]; have := hB.out.size; omega) (.cells #[.string nm, .slice r2 nr e2, .int .i64 kd, .int .i64 nn, .string sv, .slice y1 ns y2] 54))
      have T1 := Lib.hid t1
      have T2 := Lib.hid t2
      have U1 := Lib.hid u1
      have U2 := Lib.hid u2
      clear K1 K2 K3 f2 t1 t2 u1 u2
      simp only [List.getElem?_toArray, List.getElem?_cons_zero, List.getElem?_cons_succ] at p0 p1 p2 p3 p4 p5 q0 q1 q2 q3 q4 q5
      go_wp2_with fail
      refine (sameGiven_t (hφ.below HB2.out) nm nr T1.out U1.out hnr kd nn sv ns T2.out U2.out hns).mono ?_
      rintro e w3 ⟨rfl, hb3⟩
      have HB3 := Lib.hid (HB2.out.trans (hb3.mono HB2.out.size))
      clear hb3 p0 p1 p2 p3 p4 p5 q0 q1 q2 q3 q4 q5 d0 d1 d2 d3 d4 d5 g0 g1 g2 g3 g4 g5
      go_wp2
      go_roundw
      case rel => exact ⟨k + 1, by omega, by go_num, HB3⟩
      case measure => (simp [intOf] <;> omega)
    · obtain rfl : k = n := by omega
      go_wp2
      go_ret
      exact ⟨rfl, hB.out⟩
end Go.Proofs.YtkfmadeeobalaaaDoor
