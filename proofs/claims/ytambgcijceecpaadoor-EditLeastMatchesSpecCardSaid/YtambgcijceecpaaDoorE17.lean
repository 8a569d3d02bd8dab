/- The walks of least, Passes, Least. Conditions: none beyond what the claim form gives. -/
import Derived.Test.YtambgcijceecpaaDoorE16
namespace Go.Proofs.YtambgcijceecpaaDoor
open Go.RowKit
set_option linter.unusedVariables false
theorem Blk.newAt (w : World) (cs : Array Value) (T : TypeId) {k : Nat} (h : w.heap.size = k) : Blk (w.alloc (.cells cs T)) k cs T := by subst h; exact Blk.new w cs T
/-- φ' is φ, and more from block B on. -/
def SubP (B : Nat) (φ φ' : Phi) : Prop := φ.le φ' ∧ ∀ b, b < B → φ' b = φ b
theorem Inv.sub2 {B : Nat} {w0 w : World} {φ0 φ1 φ2 : Phi} (k : Inv B w0 φ1 φ2 w) (h : SubP B φ0 φ1) : Inv B w0 φ0 φ2 w := ⟨k.bel, k.base, k.fz, h.1.trans k.le, fun b hb => (k.new b hb).trans (h.2 b hb)⟩
def SlBPost (l : List Int) (b : Bool) (φ : Phi) (w : World) (e : Ending) (w' : World) : Prop :=
  ∃ φ' a cap, e = .returned (.tuple #[.slice a l.length cap, .bool b]) ∧ Inv w.heap.size w φ φ' w' ∧ SlV φ' a cap l
set_option maxHeartbeats 1000000 in
theorem least_any
  {φ : Phi} {br : Nat} {fs : List Fld} {es : List Edt} {n m : Nat} {a : Option Addr} {cap : Nat} {ae : Option Addr} {ce : Nat} {ab : Option Addr} {cb : Nat} (R : RulV φ br fs es n m a cap ae ce ab cb)
    (w : World) (hφ : Fz φ w) (a1 : Option Addr) (c1 : Nat) (rec : List Int) (sr : SlV φ a1 c1 rec) (hrl : Hid (rec.length = n)) {l : List Int} {lw : Int} {fo b : Bool} (hq : Hid (leastS fs es n m rec = ((l, lw, fo), b))) :
    Calls Tryd.prog 46 #[.pointer (some ⟨br, 0, none⟩), .slice a1 n c1] w (SlBPost l fo φ w) := by
  have hn12 := R.ok.pos
  have hq' : Hid (foldU (leastV fs es n m rec) (comps fs (List.replicate n true) n 0 (List.replicate n 0)) ([], 0, false) = ((l, lw, fo), b)) := hq
  go_enter Tryd.func46, Tryd.ntmps46
  go_wp2_with fail
  have K2 := Lib.hid (((((Blk.newAt w #[.pointer (some ⟨br, 0, none⟩)] 54 rfl).alloc (.cells #[.slice a1 n c1] 26)).alloc (.cells #[.slice none 0 0] 26)).alloc (.cells #[.int .i64 0] 3)).alloc (.cells #[.bool false] 4))
  have K3 := Lib.hid ((((Blk.newAt (w.alloc (.cells #[.pointer (some ⟨br, 0, none⟩)] 54)) #[.slice a1 n c1] 26 (alloc_size _ _)).alloc (.cells #[.slice none 0 0] 26)).alloc (.cells #[.int .i64 0] 3)).alloc (.cells #[.bool false] 4))
  have K6 := Lib.hid (((Blk.newAt ((w.alloc (.cells #[.pointer (some ⟨br, 0, none⟩)] 54)).alloc (.cells #[.slice a1 n c1] 26)) #[.slice none 0 0] 26 (k := w.heap.size + 1 + 1) (by simp)).alloc (.cells #[.int .i64 0] 3)).alloc (.cells #[.bool false] 4))
  have K7 := Lib.hid ((Blk.newAt (((w.alloc (.cells #[.pointer (some ⟨br, 0, none⟩)] 54)).alloc (.cells #[.slice a1 n c1] 26)).alloc (.cells #[.slice none 0 0] 26)) #[.int .i64 0] 3 (k := w.heap.size + 1 + 1 + 1) (by simp)).alloc (.cells #[.bool false] 4))
  have K8 := Lib.hid (Blk.newAt ((((w.alloc (.cells #[.pointer (some ⟨br, 0, none⟩)] 54)).alloc (.cells #[.slice a1 n c1] 26)).alloc (.cells #[.slice none 0 0] 26)).alloc (.cells #[.int .i64 0] 3)) #[.bool false] 4 (k := w.heap.size + 1 + 1 + 1 + 1) (by simp))
  have HI := Lib.hid ((((((Inv.start hφ).alloc (.cells #[.pointer (some ⟨br, 0, none⟩)] 54)).alloc (.cells #[.slice a1 n c1] 26)).alloc (.cells #[.slice none 0 0] 26)).alloc (.cells #[.int .i64 0] 3)).alloc (.cells #[.bool false] 4))
  have HN := Lib.hid (fun b (h : w.heap.size ≤ b) => hφ.new_none h)
  generalize ((((w.alloc (.cells #[.pointer (some ⟨br, 0, none⟩)] 54)).alloc (.cells #[.slice a1 n c1] 26)).alloc (.cells #[.slice none 0 0] 26)).alloc (.cells #[.int .i64 0] 3)).alloc (.cells #[.bool false] 4) = W at *
  have hWs := Lib.hid K8.out.lt
  generalize hb2 : w.heap.size = b2 at *
  have l3 : b2 + 1 < b2 + 1 + 1 := by omega
  generalize hb3 : b2 + 1 = b3 at *
  generalize hb6 : b3 + 1 = b6 at *
  generalize hb7 : b6 + 1 = b7 at *
  generalize hb8 : b7 + 1 = b8 at *
  have hlt : Hid (b2 < b3 ∧ b3 < b6 ∧ b6 < b7 ∧ b7 < b8) := Lib.hid (by omega)
  replace hb2 := Lib.hid hb2
  clear hb3 hb6 hb7 hb8 l3
  have HL := Lib.hid hq'.out
  refine (all_least R (J := fun g φ2 s w' => LeJ b2 w br (.slice a1 n c1) b2 b3 b6 b7 b8 g φ2 s w' ∧ SubP b2 φ φ2) (V := leastV fs es n m rec) (B := b2) (w0 := w) W ([], 0, false) HI.out.size HI.out.fz ?h0 (fun g φ2 s w h => h.1.h.inv) (fun g φ2 s w k v h => ⟨h.1.row k v, h.2⟩) ?hV hq').mono ?_
  case h0 =>
    intro g φ2 w' hle hi hg hgl hgn
    have lt := hlt.out
    have ws := hWs.out
    have hn : ∀ b, b2 ≤ b → b < W.heap.size → φ2 b = none := fun b h1 h2 => (hi.new b h2).trans (HN.out b h1)
    have hb : ∀ {b cs T}, Blk W b cs T → Blk w' b cs T := fun h => h.callB hi.bel
    exact ⟨⟨HoldS.start ((HI.out.call hi).toSelf) (hb K6.out) hgn (hn b6 (by omega) (by omega)) (by omega) (by omega) hgl, hb K2.out, hb K3.out, hb K7.out, hb K8.out, hn b7 (by omega) (by omega), hn b8 (by omega) ws, by omega⟩, hle, fun b hb => hi.new b (by omega)⟩
  case hV =>
    intro g c φ2 hle x s w' hx hJ hO
    refine (leastC_any (R.mono hle) (sr.mono hle) hrl x s w' hx hJ.1 hO).mono ?_
    rintro e w2 ⟨h1, h2, h3⟩
    exact ⟨h1, ⟨h2, hJ.2⟩, h3⟩
  rintro e w6 ⟨rfl, g, φ2, _, hJ, hle⟩
  obtain ⟨φ3, a6, c6, l6, hi6, s6, k6⟩ := hJ.h.out
  have hI6 := Lib.hid (hi6.sub2 hle)
  have y1 : w6.cell? ⟨b6, 0, none⟩ = some (.slice a6 l.length c6) := k6.cell 0
  have y2 : w6.cell? ⟨b8, 0, none⟩ = some (.bool fo) := hJ.k8.cell 0
  clear hJ k6 hi6 hle l6 hq hq' HL
  go_wp2
  go_quiet (fail)
  go_wp2
  go_ret2
  exact ⟨φ3, a6, c6, rfl, by rw [hb2.out]; exact hI6.out.drewN _, s6⟩
end Go.Proofs.YtambgcijceecpaaDoor
