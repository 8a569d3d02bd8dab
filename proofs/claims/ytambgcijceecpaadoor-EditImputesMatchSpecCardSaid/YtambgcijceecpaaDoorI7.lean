/- The walk of the law EditImputesMatchSpec. Conditions: the library's table of blanks reads as it was laid. -/
import Derived.Test.YtambgcijceecpaaDoorI6
namespace Go.Proofs.YtambgcijceecpaaDoor
open Go.RowKit
set_option linter.unusedVariables false
set_option maxRecDepth 100000 in
set_option maxHeartbeats 1000000 in
theorem imputes_core
  (n : Nat) (a : Option Addr) (cap : Nat) (fs : List Fld) (m : Nat) (ae : Option Addr) (ce : Nat) (es : List Edt) (w : World) (φ : Phi) (hφ : Fz φ w) (ht : TabP φ) (s : SlV φ a cap fs) (hn : Hid (fs.length = n)) (hm : n ≤ 9223372036854775807) (hg : Hid (∀ x ∈ fs, FldG x)) (se : SlV φ ae ce es) (hne : Hid (es.length = m)) (hme : m ≤ 9223372036854775807) (hge : Hid (∀ x ∈ es, EdtG x))
      (nr : Nat) (a2 : Option Addr) (c2 : Nat) (rec : List Int) (sr : SlV φ a2 c2 rec) (hrl : Hid (rec.length = nr)) (hmr : nr ≤ 9223372036854775807)
      (nd : Nat) (ad : Option Addr) (cd : Nat) (ds : List (List Int)) (sd : SlV φ ad cd ds) (hdl : Hid (ds.length = nd)) (hmd : nd ≤ 9223372036854775807) (seed : ByteArray) (hsd : seed.size ≤ reachBytes)
    :
    Calls Tryd.prog 6 #[.agg #[.slice a n cap, .slice ae m ce], .slice a2 nr c2, .slice ad nd cd, .string seed] w fun e w' => e = .returned (.bool true) ∧ Below w.heap.size w w' := by
  obtain ⟨F, hF⟩ : ∃ F, Hid (withF fs es rec = F) := ⟨_, Lib.hid rfl⟩
  obtain ⟨r, G, hq⟩ : ∃ r G, Hid (impuR fs es rec ds seed F = (r, G)) := ⟨_, _, Lib.hid rfl⟩
  have hTT := Lib.hid ht
  clear ht
  have H0 := Lib.hid ((Inv.start hφ).alloc (.cells #[.slice a n cap, .slice ae m ce] 25))
  have B0 := Lib.hid (Blk.new w #[.slice a n cap, .slice ae m ce] 25)
  have hGG : (G == G) = true := by simp
  go_enter Tryd.func6, Tryd.ntmps6
  go_wp2_with fail
  refine (Impute_any n a cap fs m ae ce es _ φ H0.out.fz s hn hm hg se hne hme hge nr a2 c2 rec sr hrl hmr nd ad cd ds sd hdl hmd seed hsd hF hq).mono ?_
  rintro e w1 ⟨φ1, a4, n4, c4, a5, n5, c5, rfl, hi1, s4, s5, hl4, hl5⟩
  generalize hbp : w.heap.size = bp at *
  replace hbp := Lib.hid hbp
  have H1 := Lib.hid ((H0.out.call hi1).alloc (.cells #[.slice a4 n4 c4, .slice a5 n5 c5, .int .i64 r.2.2] 42))
  have B1 := Lib.hid ((B0.out.callB hi1.bel).alloc (.cells #[.slice a4 n4 c4, .slice a5 n5 c5, .int .i64 r.2.2] 42))
  have C1 := Lib.hid (Blk.new w1 #[.slice a4 n4 c4, .slice a5 n5 c5, .int .i64 r.2.2] 42)
  have p0 : (w1.alloc (.cells #[.slice a4 n4 c4, .slice a5 n5 c5, .int .i64 r.2.2] 42)).cell? ⟨bp, 0, none⟩ = some (.slice a n cap) := B1.out.cell 0
  have p1 : (w1.alloc (.cells #[.slice a4 n4 c4, .slice a5 n5 c5, .int .i64 r.2.2] 42)).cell? ⟨bp, 1, none⟩ = some (.slice ae m ce) := B1.out.cell 1
  have hl4 := Lib.hid hl4
  have hl5 := Lib.hid hl5
  clear hi1 H0 B0
  go_wp2_with fail
  refine (RImpute_any n a cap fs m ae ce es _ φ1 H1.out.fz (hTT.out.mono H1.out.le) (s.mono H1.out.le) hn hm hg (se.mono H1.out.le) hne hme hge nr a2 c2 rec (sr.mono H1.out.le) hrl hmr nd ad cd ds (sd.mono H1.out.le) hdl hmd seed hsd hF hq).mono ?_
  rintro e w2 ⟨φ2, a6, n6, c6, a7, n7, c7, rfl, hi2, s6, s7, hl6, hl7⟩
  obtain rfl : n4 = n6 := hl4.out.symm.trans hl6
  obtain rfl : n5 = n7 := hl5.out.symm.trans hl7
  have H2 := Lib.hid ((H1.out.call hi2).alloc (.cells #[.slice a6 n4 c6, .slice a7 n5 c7, .int .i64 r.2.2] 42))
  have C2 := Lib.hid ((C1.out.callB hi2.bel).alloc (.cells #[.slice a6 n4 c6, .slice a7 n5 c7, .int .i64 r.2.2] 42))
  have S4 := Lib.hid (s4.mono hi2.le)
  have S5 := Lib.hid (s5.mono hi2.le)
  have S6 := Lib.hid s6
  have S7 := Lib.hid s7
  clear hi2 H1 B1 s4 s5 s6 s7 p0 p1 C1 hl6 hl7
  have x0 : (w2.alloc (.cells #[.slice a6 n4 c6, .slice a7 n5 c7, .int .i64 r.2.2] 42)).cell? ⟨w1.heap.size, 0, none⟩ = some (.slice a4 n4 c4) := C2.out.cell 0
  have x1 : (w2.alloc (.cells #[.slice a6 n4 c6, .slice a7 n5 c7, .int .i64 r.2.2] 42)).cell? ⟨w1.heap.size, 1, none⟩ = some (.slice a5 n5 c5) := C2.out.cell 1
  have x2 : (w2.alloc (.cells #[.slice a6 n4 c6, .slice a7 n5 c7, .int .i64 r.2.2] 42)).cell? ⟨w1.heap.size, 2, none⟩ = some (.int .i64 r.2.2) := C2.out.cell 2
  have y0 : (w2.alloc (.cells #[.slice a6 n4 c6, .slice a7 n5 c7, .int .i64 r.2.2] 42)).cell? ⟨w2.heap.size, 0, none⟩ = some (.slice a6 n4 c6) := box_at 0
  have y1 : (w2.alloc (.cells #[.slice a6 n4 c6, .slice a7 n5 c7, .int .i64 r.2.2] 42)).cell? ⟨w2.heap.size, 1, none⟩ = some (.slice a7 n5 c7) := box_at 1
  have y2 : (w2.alloc (.cells #[.slice a6 n4 c6, .slice a7 n5 c7, .int .i64 r.2.2] 42)).cell? ⟨w2.heap.size, 2, none⟩ = some (.int .i64 r.2.2) := box_at 2
  go_wp2_with fail
  refine (sameRepair_t H2.out.fz S4.out S5.out S6.out S7.out hl4 hl5).mono ?_
  rintro e w3 ⟨rfl, hb3⟩
  have H3 := Lib.hid (H2.out.callB hb3)
  clear hb3 H2
  go_wp2
  go_ret
  exact ⟨rfl, by rw [hbp.out]; exact H3.out.bel⟩
def LiG (xs : List (List Int)) : Prop := xs.length * Tryd.prog.bytesOf 26 ≤ reachBytes ∧ ∀ x ∈ xs, x.length * 8 ≤ reachBytes ∧ ∀ y ∈ x, IsI64 y
theorem rLists (H : Type) (enc : TypeId × Value → H) (W : World) : Reads enc Tryd.prog W 40 (List (List Int)) LiG := Reads.slice Tryd.underlying40 (by kernel_rfl) (by decide) (rInts H enc W)
theorem editImputesMatchSpec_walk (w : World) (φ : Phi) (hφ : Fz φ w) (ht : TabP φ) (cs : Array Value) (x : Plan) (hx : Rep.rep φ x cs.toList) (g : PlanG x)
    (ad : Option Addr) (cp : Nat) (r : List Int) (sr : SlV φ ad cp r) (gr : r.length * 8 ≤ reachBytes ∧ ∀ x ∈ r, IsI64 x)
    (a3 : Option Addr) (c3 : Nat) (ds : List (List Int)) (sd : SlV φ a3 c3 ds) (gd : LiG ds) (seed : ByteArray) (hs : StrG seed) :
    Calls Tryd.prog 6 #[.agg cs, .slice ad r.length cp, .slice a3 ds.length c3, .string seed] w fun e w' => e = .returned (.bool true) ∧ Below w.heap.size w w' := by
  obtain ⟨a, cap, ae, ce, A⟩ := plan_open hx g
  rw [A.e]
  have h1 := ints_len gr.1
  exact imputes_core _ a cap x.1 _ ae ce x.2 w φ hφ ht A.s (Lib.hid rfl) A.hm (Lib.hid A.hg) A.se (Lib.hid rfl) A.hme (Lib.hid A.hge) _ ad cp r sr (Lib.hid rfl) (by omega) _ a3 c3 ds sd (Lib.hid rfl) sd.len seed hs
end Go.Proofs.YtambgcijceecpaaDoor
