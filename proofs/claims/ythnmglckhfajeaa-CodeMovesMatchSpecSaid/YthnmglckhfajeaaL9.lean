/- The walk of CodeMovesMatchSpec. Conditions: those that the claim form gives. -/
import Derived.Test.YthnmglckhfajeaaR7
namespace Go.Proofs.Ythnmglckhfajeaa
open Go.RowKit
set_option linter.unusedVariables false

theorem rMov (H : Type) (enc : TypeId × Value → H) (W : World) : Reads enc Try.prog W 44 (List Mov) (fun xs => xs.length * Try.prog.bytesOf 85 ≤ reachBytes ∧ ∀ x ∈ xs, IsI64 x.1 ∧ IsI64 x.2) :=
  Reads.slice Try.underlying44 (by kernel_rfl) (by decide) (Reads.struct2 (s1 := 1) (s2 := 1) Try.underlying85 (by kernel_rfl) (by kernel_rfl) (by kernel_rfl) (by kernel_rfl) (by kernel_rfl) (rInt H enc W) (rInt H enc W))
theorem movs_len {l : List Mov} (h : l.length * Try.prog.bytesOf 85 ≤ reachBytes) : l.length ≤ 9223372036854775807 := by
  have hb : Try.prog.bytesOf 85 = 16 := by kernel_rfl
  rw [hb] at h; unfold reachBytes at h; omega
theorem recF_len (l l2 : List Nod) (ms : List Mov) (cs : List Cdg) : (recF l l2 ms cs).1.length ≤ cs.length ∧ (recF l l2 ms cs).2.1.length ≤ cs.length := by
  have := rec_len l l2 (mvK ms ms.length) cs
  unfold recF
  repeat' split
  all_goals first | (simp; done) | exact this

set_option maxRecDepth 100000 in
set_option maxHeartbeats 2000000 in
theorem moves_core {w : World} {φ : Phi} (hφ : Fz φ w) {a : Option Addr} {c n : Nat} {l : List Nod} (s : SlV φ a c l) (hn : Hid (l.length = n)) (hm : n ≤ 9223372036854775807) {a' : Option Addr} {c' n' : Nat} {l2 : List Nod} (s' : SlV φ a' c' l2) (hn' : Hid (l2.length = n')) (hm' : n' ≤ 9223372036854775807)
    {am : Option Addr} {cm nm : Nat} {ms : List Mov} (sm : SlV φ am cm ms) (hnm : Hid (ms.length = nm)) (hmm : nm ≤ 9223372036854775807) {ac : Option Addr} {cc nc : Nat} {cs : List Cdg} (sc : SlV φ ac cc cs) (hnc : Hid (cs.length = nc)) (hmc : nc ≤ 9223372036854775807) (lev : Int) :
    Calls Try.prog 6 #[.slice a n c, .slice a' n' c', .slice am nm cm, .slice ac nc cc, .int .i64 lev] w fun e w' => e = .returned (.bool true) ∧ Below w.heap.size w w' := by
  have hl1 := lift_len l cs lev
  obtain ⟨hl2, hl3⟩ := recF_len l l2 ms cs
  rw [hnc.out] at hl1 hl2 hl3
  obtain ⟨r1, hr1⟩ : ∃ r, Hid (liftF l cs lev = r) := ⟨_, Lib.hid rfl⟩
  obtain ⟨r2, hr2⟩ : ∃ r, Hid (recF l l2 ms cs = r) := ⟨_, Lib.hid rfl⟩
  rw [hr1.out] at hl1
  rw [hr2.out] at hl2 hl3
  obtain ⟨xs, q1⟩ := r1
  obtain ⟨ys, zs, q2⟩ := r2
  dsimp only at hl1 hl2 hl3
  obtain ⟨nx, hnx⟩ : ∃ nx, Hid (xs.length = nx) := ⟨_, Lib.hid rfl⟩
  obtain ⟨ny, hny⟩ : ∃ nx, Hid (ys.length = nx) := ⟨_, Lib.hid rfl⟩
  obtain ⟨nz, hnz⟩ : ∃ nx, Hid (zs.length = nx) := ⟨_, Lib.hid rfl⟩
  rw [hnx.out] at hl1
  rw [hny.out] at hl2
  rw [hnz.out] at hl3
  have f1 : (q1 != q1) = false := by simp
  have f2 : (q2 == q2) = true := by simp
  go_enter Try.func6, Try.ntmps6
  go_wp2_with fail
  refine (Lift_any hφ s hn hm sc hnc hmc lev).mono ?_
  rintro e w1 ⟨a1, c1, φ1, rfl, hi1, s1⟩
  have I1 := Lib.hid hi1
  rw [hr1.out] at s1 ⊢
  dsimp only at s1 ⊢
  rw [hnx.out]
  clear hi1
  go_wp2_with fail
  refine (RLift_any I1.out.fz (s.mono I1.out.le) hn hm (sc.mono I1.out.le) hnc hmc lev).mono ?_
  rintro e w2 ⟨a2, c2, φ2, rfl, hi2, s2⟩
  have I2 := Lib.hid (I1.out.call hi2)
  have s1' := s1.mono hi2.le
  rw [hr1.out] at s2 ⊢
  dsimp only at s2 ⊢
  rw [hnx.out]
  clear hi2 s1
  go_wp2_with fail
  refine (EqualC_t nx a1 c1 xs nx a2 c2 xs w2 φ2 I2.out.fz s1' s2 hnx hnx (by omega) rfl).mono ?_
  rintro e w3 ⟨rfl, hb⟩
  have I3 := Lib.hid (I2.out.callB hb)
  clear hb I2 I1 s1' s2
  go_wp2_with fail
  refine (Recode_any I3.out.fz (s.mono I3.out.le) hn hm (s'.mono I3.out.le) hn' hm' (sm.mono I3.out.le) hnm hmm (sc.mono I3.out.le) hnc hmc).mono ?_
  rintro e w4 ⟨a5, c5, a6, c6, φ5, rfl, hi5, s5, s6⟩
  have I5 := Lib.hid (I3.out.call hi5)
  rw [hr2.out] at s5 s6 ⊢
  dsimp only at s5 s6 ⊢
  rw [hny.out, hnz.out]
  clear hi5 I3
  go_wp2_with fail
  refine (RRecode_any I5.out.fz (s.mono I5.out.le) hn hm (s'.mono I5.out.le) hn' hm' (sm.mono I5.out.le) hnm hmm (sc.mono I5.out.le) hnc hmc).mono ?_
  rintro e w5 ⟨a7, c7, a8, c8, φ7, rfl, hi7, s7, s8⟩
  have I7 := Lib.hid (I5.out.call hi7)
  have s5' := s5.mono hi7.le
  have s6' := s6.mono hi7.le
  rw [hr2.out] at s7 s8 ⊢
  dsimp only at s7 s8 ⊢
  rw [hny.out, hnz.out]
  clear hi7 I5 s5 s6
  go_wp2_with fail
  refine (EqualC_t ny a5 c5 ys ny a7 c7 ys w5 φ7 I7.out.fz s5' s7 hny hny (by omega) rfl).mono ?_
  rintro e w6 ⟨rfl, hb⟩
  have I8 := Lib.hid (I7.out.callB hb)
  clear hb I7
  go_wp2_with fail
  refine (EqualC_t nz a6 c6 zs nz a8 c8 zs w6 φ7 I8.out.fz s6' s8 hnz hnz (by omega) rfl).mono ?_
  rintro e w7 ⟨rfl, hb⟩
  have I9 := Lib.hid (I8.out.callB hb)
  clear hb I8
  go_wp2
  go_ret
  exact ⟨rfl, I9.out.bel⟩
theorem codeMovesMatchSpec_walk (w : World) (φ : Phi) (hφ : Fz φ w) (ad : Option Addr) (cp : Nat) (l : List Nod) (s : SlV φ ad cp l) (g : l.length * Try.prog.bytesOf 68 ≤ reachBytes ∧ ∀ x ∈ l, IsI64 x.1 ∧ IsI64 x.2.1 ∧ StrG x.2.2)
    (ad2 : Option Addr) (cp2 : Nat) (l2 : List Nod) (s2 : SlV φ ad2 cp2 l2) (g2 : l2.length * Try.prog.bytesOf 68 ≤ reachBytes ∧ ∀ x ∈ l2, IsI64 x.1 ∧ IsI64 x.2.1 ∧ StrG x.2.2)
    (am : Option Addr) (cm : Nat) (ms : List Mov) (sm : SlV φ am cm ms) (gm : ms.length * Try.prog.bytesOf 85 ≤ reachBytes ∧ ∀ x ∈ ms, IsI64 x.1 ∧ IsI64 x.2)
    (ac : Option Addr) (cc : Nat) (cs : List Cdg) (sc : SlV φ ac cc cs) (gc : cs.length * Try.prog.bytesOf 32 ≤ reachBytes ∧ ∀ x ∈ cs, IsI64 x.1 ∧ IsI64 x.2.1 ∧ IsI64 x.2.2) (a : Int) (ga : IsI64 a) :
    Calls Try.prog 6 #[.slice ad l.length cp, .slice ad2 l2.length cp2, .slice am ms.length cm, .slice ac cs.length cc, .int .i64 a] w fun e w' => e = .returned (.bool true) ∧ Below w.heap.size w w' :=
  moves_core hφ s (Lib.hid rfl) (nodes_len g.1) s2 (Lib.hid rfl) (nodes_len g2.1) sm (Lib.hid rfl) (movs_len gm.1) sc (Lib.hid rfl) (cdgs_len gc.1) a
end Go.Proofs.Ythnmglckhfajeaa
