/- The walk of SampleCallsMatchSpec: it returns true. Conditions: those that the claim form gives. -/
import Derived.Test.YtmgdeenjdoennaaC9
import Derived.Deep.RegionHeld3
namespace Go.Proofs.Ytmgdeenjdoennaa
open Go.RowKit
set_option linter.unusedVariables false

def BoxSt (w : World) (cs : Array Value) (wx : World) : Prop := Below w.heap.size w wx ∧ Blk wx w.heap.size cs 33
theorem BoxSt.call {w wx wy : World} {cs : Array Value} (h : Hid (BoxSt w cs wx)) (hb : Below wx.heap.size wx wy) : Hid (BoxSt w cs wy) :=
  Lib.hid ⟨h.out.1.trans (hb.mono h.out.1.size), h.out.2.callB hb⟩
theorem BoxSt.bel {w wx : World} {cs : Array Value} (h : Hid (BoxSt w cs wx)) : Below w.heap.size w wx := h.out.1
theorem BoxSt.drew {w wx : World} {cs : Array Value} (h : Hid (BoxSt w cs wx)) : Hid (BoxSt w cs wx.drew) := Lib.hid ⟨h.out.1.drew, h.out.2⟩

section
variable (most gap : Int) (n1 n2 n : Nat) (a1 a2 a : Option Addr) (c1 c2 c : Nat) (days : List Int) (wins l : List (Int × Int)) (w : World) (φ : Phi) (hφ : Fz φ w) (s1 : SlV φ a1 c1 days) (s2 : SlV φ a2 c2 wins) (l1 : Hid (days.length = n1)) (l2 : Hid (wins.length = n2)) (hm : n1 ≤ 9223372036854775807) (q : Int) (hq : Hid (chkF most gap days wins = q))
include hφ s1 s2 l1 l2 hm hq
theorem chk_S (wx : World) (h : Hid (BoxSt w #[.int .i64 most, .int .i64 gap, .slice a1 n1 c1, .slice a2 n2 c2] wx)) :
    Calls Try.prog 15 #[.agg #[.int .i64 most, .int .i64 gap, .slice a1 n1 c1, .slice a2 n2 c2]] wx fun e w' => e = .returned (.int .i64 q) ∧ w'.cell? ⟨w.heap.size, 0, none⟩ = some (.int .i64 most) ∧ w'.cell? ⟨w.heap.size, 1, none⟩ = some (.int .i64 gap) ∧ w'.cell? ⟨w.heap.size, 2, none⟩ = some (.slice a1 n1 c1) ∧ w'.cell? ⟨w.heap.size, 3, none⟩ = some (.slice a2 n2 c2) ∧ Hid (BoxSt w #[.int .i64 most, .int .i64 gap, .slice a1 n1 c1, .slice a2 n2 c2] w') := by
  refine (chk_any most gap n1 n2 a1 a2 c1 c2 days wins wx φ (hφ.below h.out.1) s1 s2 l1 l2 hm).mono ?_
  rintro e w' ⟨rfl, hb⟩
  have h2 := BoxSt.call h hb
  exact ⟨by rw [hq.out], h2.out.2.cell 0, h2.out.2.cell 1, h2.out.2.cell 2, h2.out.2.cell 3, h2⟩
theorem rchk_S (wx : World) (h : Hid (BoxSt w #[.int .i64 most, .int .i64 gap, .slice a1 n1 c1, .slice a2 n2 c2] wx)) :
    Calls Try.prog 16 #[.agg #[.int .i64 most, .int .i64 gap, .slice a1 n1 c1, .slice a2 n2 c2]] wx fun e w' => e = .returned (.int .i64 q) ∧ w'.cell? ⟨w.heap.size, 0, none⟩ = some (.int .i64 most) ∧ w'.cell? ⟨w.heap.size, 1, none⟩ = some (.int .i64 gap) ∧ w'.cell? ⟨w.heap.size, 2, none⟩ = some (.slice a1 n1 c1) ∧ w'.cell? ⟨w.heap.size, 3, none⟩ = some (.slice a2 n2 c2) ∧ Hid (BoxSt w #[.int .i64 most, .int .i64 gap, .slice a1 n1 c1, .slice a2 n2 c2] w') := by
  refine (rchk_any most gap n1 n2 a1 a2 c1 c2 days wins wx φ (hφ.below h.out.1) s1 s2 l1 l2 hm).mono ?_
  rintro e w' ⟨rfl, hb⟩
  have h2 := BoxSt.call h hb
  exact ⟨by rw [hq.out], h2.out.2.cell 0, h2.out.2.cell 1, h2.out.2.cell 2, h2.out.2.cell 3, h2⟩
end

set_option maxRecDepth 100000 in
set_option maxHeartbeats 1600000 in
theorem calls_core (most gap minute : Int) (n1 n2 n : Nat) (a1 a2 a : Option Addr) (c1 c2 c : Nat) (days : List Int) (wins l : List (Int × Int)) (w : World) (φ : Phi) (hφ : Fz φ w) (s1 : SlV φ a1 c1 days) (s2 : SlV φ a2 c2 wins) (s : SlV φ a c l) (l1 : Hid (days.length = n1)) (l2 : Hid (wins.length = n2)) (ln : Hid (l.length = n)) (hm : n1 ≤ 9223372036854775807) :
    Calls Try.prog 7 #[.agg #[.int .i64 most, .int .i64 gap, .slice a1 n1 c1, .slice a2 n2 c2], .slice a n c, .int .i64 minute] w fun e w' => e = .returned (.bool true) ∧ Below w.heap.size w w' := by
  have hi0 : Hid (BoxSt w #[.int .i64 most, .int .i64 gap, .slice a1 n1 c1, .slice a2 n2 c2] (w.alloc (.cells #[.int .i64 most, .int .i64 gap, .slice a1 n1 c1, .slice a2 n2 c2] 33))) := Lib.hid ⟨(Below.refl _ _).alloc (Nat.le_refl _) _, Blk.new _ _ _⟩
  obtain ⟨q, hq⟩ : ∃ q, Hid (chkF most gap days wins = q) := ⟨_, Lib.hid rfl⟩
  obtain ⟨o, ho⟩ : ∃ o, Hid (OutF l = o) := ⟨_, Lib.hid rfl⟩
  obtain ⟨d, hd⟩ : ∃ d, Hid (DueF most gap days wins l minute = d) := ⟨_, Lib.hid rfl⟩
  obtain ⟨o1, o2⟩ := o
  obtain ⟨d1, d2, d3⟩ := d
  go_enter Try.func7, Try.ntmps7
  go_wp2_with fail
  generalize w.alloc (.cells #[.int .i64 most, .int .i64 gap, .slice a1 n1 c1, .slice a2 n2 c2] 33) = wa at *
  refine (Outcome_any n a c l wa φ (hφ.below hi0.out.1) s ln).mono ?_
  rintro e wb ⟨rfl, hb⟩
  have hi1 := BoxSt.call hi0 hb
  clear hi0 hb
  rw [ho.out]
  go_wp2_with fail
  refine (ROutcome_any n a c l wb φ (hφ.below hi1.out.1) s ln).mono ?_
  rintro e wc ⟨rfl, hb⟩
  have hi2 := BoxSt.call hi1 hb
  clear hi1 hb
  rw [ho.out]
  have g0 := hi2.out.2.cell 0
  have g1 := hi2.out.2.cell 1
  have g2 := hi2.out.2.cell 2
  have g3 := hi2.out.2.cell 3
  simp at g0 g1 g2 g3
  have hGd := BoxSt.drew hi2
  have q1 : (q != q) = false := by simp
  have q2 : (o2 != o2) = false := by simp
  have q3 : (o1 != o1) = false := by simp
  go_wp2_with fail
  go_region_held3 (fun w' => w'.cell? ⟨w.heap.size, 0, none⟩ = some (.int .i64 most) ∧ w'.cell? ⟨w.heap.size, 1, none⟩ = some (.int .i64 gap) ∧ w'.cell? ⟨w.heap.size, 2, none⟩ = some (.slice a1 n1 c1) ∧ w'.cell? ⟨w.heap.size, 3, none⟩ = some (.slice a2 n2 c2) ∧ Hid (BoxSt w #[.int .i64 most, .int .i64 gap, .slice a1 n1 c1, .slice a2 n2 c2] w')) (first | exact ⟨g0, g1, g2, g3, hGd⟩ | exact ⟨by assumption, by assumption, by assumption, by assumption, by assumption⟩) (first | (go_at_call 15; refine (chk_S most gap n1 n2 a1 a2 c1 c2 days wins w φ hφ s1 s2 l1 l2 hm q hq _ (by assumption)).mono ?_; rintro e w' ⟨rfl, x0, x1, x2, x3, x4⟩) | (go_at_call 16; refine (rchk_S most gap n1 n2 a1 a2 c1 c2 days wins w φ hφ s1 s2 l1 l2 hm q hq _ (by assumption)).mono ?_; rintro e w' ⟨rfl, x0, x1, x2, x3, x4⟩))
  clear q1 q2 q3 g0 g1 g2 g3
  go_wp2_with fail
  refine (due_any most gap minute n1 n2 n a1 a2 a c1 c2 c days wins l _ φ (by exact hφ.below (BoxSt.bel (by assumption))) s1 s2 s l1 l2 ln hm).mono ?_
  rintro e we ⟨rfl, hb⟩
  have hi5 : Hid (BoxSt w #[.int .i64 most, .int .i64 gap, .slice a1 n1 c1, .slice a2 n2 c2] we) := BoxSt.call (by assumption) hb
  clear hb
  rw [hd.out]
  have g0 := hi5.out.2.cell 0
  have g1 := hi5.out.2.cell 1
  have g2 := hi5.out.2.cell 2
  have g3 := hi5.out.2.cell 3
  simp at g0 g1 g2 g3
  go_wp2_with fail
  refine (rdue_any most gap minute n1 n2 n a1 a2 a c1 c2 c days wins l _ φ (by exact hφ.below hi5.out.1) s1 s2 s l1 l2 ln hm).mono ?_
  rintro e wf ⟨rfl, hb⟩
  have hi6 := BoxSt.call hi5 hb
  clear hb
  rw [hd.out]
  have q4 : (d3 == d3) = true := by simp
  have q5 : (d1 == d1) = true := by simp
  have q6 : (d2 == d2) = true := by simp
  go_wp2
  go_ret
  exact ⟨rfl, hi6.out.1⟩

theorem rPairs (H : Type) (enc : TypeId × Value → H) (W : World) (T U : Nat) (fs : Array Field) (ht : Try.prog.underlying T = some (.slice U)) (hu : Try.prog.underlying U = some (.struct fs))
    (f1 : (fs[0]?).map (fun f => (f.type, f.offset)) = some (3, 0)) (f2 : (fs[1]?).map (fun f => (f.type, f.offset)) = some (3, 1)) (c : Try.prog.cellsOf U = 2) :
    Reads enc Try.prog W T (List (Int × Int)) (fun xs => xs.length * Try.prog.bytesOf U ≤ reachBytes ∧ ∀ x ∈ xs, IsI64 x.1 ∧ IsI64 x.2) :=
  Reads.slice ht c (by decide) (Reads.struct2 (s1 := 1) (s2 := 1) hu f1 f2 (by kernel_rfl) (by kernel_rfl) c (rInt H enc W) (rInt H enc W))
theorem rAtts (H : Type) (enc : TypeId × Value → H) (W : World) : Reads enc Try.prog W 34 (List (Int × Int)) (fun xs => xs.length * Try.prog.bytesOf 50 ≤ reachBytes ∧ ∀ x ∈ xs, IsI64 x.1 ∧ IsI64 x.2) :=
  rPairs H enc W 34 50 _ Try.underlying34 Try.underlying50 (by kernel_rfl) (by kernel_rfl) (by kernel_rfl)
theorem rWins (H : Type) (enc : TypeId × Value → H) (W : World) : Reads enc Try.prog W 31 (List (Int × Int)) (fun xs => xs.length * Try.prog.bytesOf 48 ≤ reachBytes ∧ ∀ x ∈ xs, IsI64 x.1 ∧ IsI64 x.2) :=
  rPairs H enc W 31 48 _ Try.underlying31 Try.underlying48 (by kernel_rfl) (by kernel_rfl) (by kernel_rfl)
def CallG (x : Int × Int × List Int × List (Int × Int)) : Prop := x.2.2.1.length * 8 ≤ reachBytes
theorem rCall (H : Type) (enc : TypeId × Value → H) (W : World) : Reads enc Try.prog W 33 (Int × Int × List Int × List (Int × Int)) CallG := by
  intro fuel base spare held cs d ps h hw
  obtain ⟨x, hr, hg⟩ := Reads.struct4 Try.underlying33 (by kernel_rfl) (by kernel_rfl) (by kernel_rfl) (by kernel_rfl) (s1 := 1) (s2 := 1) (s3 := 1) (s4 := 1) (by kernel_rfl) (by kernel_rfl) (by kernel_rfl) (by kernel_rfl) (by kernel_rfl) (rInt H enc W) (rInt H enc W) (rInts H enc W) (rWins H enc W) fuel base spare held cs d ps h hw
  exact ⟨x, hr, hg.2.2.1.1⟩

theorem sampleCallsMatchSpec_walk (w : World) (φ : Phi) (hφ : Fz φ w) (cs : Array Value) (x : Int × Int × List Int × List (Int × Int)) (r : Rep.rep φ x cs.toList) (g : CallG x) (a : Option Addr) (c : Nat) (l : List (Int × Int)) (s : SlV φ a c l) (gl : l.length * Try.prog.bytesOf 50 ≤ reachBytes ∧ ∀ x ∈ l, IsI64 x.1 ∧ IsI64 x.2) (minute : Int) (gm : IsI64 minute) :
    Calls Try.prog 7 #[.agg cs, .slice a l.length c, .int .i64 minute] w fun e w' => e = .returned (.bool true) ∧ Below w.heap.size w w' := by
  obtain ⟨most, gap, days, wins⟩ := x
  obtain ⟨k0, r0, e0, h0, k1, r1, e1, h1, k2, r2, e2, ⟨a1, c1, h2, s1⟩, ⟨a2, c2, h3, s2⟩⟩ := r
  have h0' : k0 = [.int .i64 most] := h0
  have h1' : k1 = [.int .i64 gap] := h1
  subst h0'; subst h1'; subst h2; subst h3; subst e2; subst e1
  have hcs : cs = #[.int .i64 most, .int .i64 gap, .slice a1 days.length c1, .slice a2 wins.length c2] := by
    apply Array.toList_inj.1; rw [e0]; rfl
  subst hcs
  have hm : days.length ≤ 9223372036854775807 := by unfold CallG reachBytes at g; simp only at g; omega
  exact calls_core most gap minute _ _ _ a1 a2 a c1 c2 c days wins l w φ hφ s1 s2 s (Lib.hid rfl) (Lib.hid rfl) (Lib.hid rfl) hm
end Go.Proofs.Ytmgdeenjdoennaa
