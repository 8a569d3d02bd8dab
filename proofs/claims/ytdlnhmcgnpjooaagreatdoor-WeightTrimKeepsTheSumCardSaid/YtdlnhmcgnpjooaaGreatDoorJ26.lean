/- The walk of the program's Respond. Conditions: the library's table of powers of ten reads as it was laid. -/
import Derived.Test.YtdlnhmcgnpjooaaGreatDoorJX
import Derived.Test.YtdlnhmcgnpjooaaGreatDoorLM
import Derived.Deep.DeepCutAuto
import Derived.Deep.RegionHeldLaw
namespace Go.Proofs.YtdlnhmcgnpjooaaGreatDoor
open Go.RowKit
set_option linter.unusedVariables false
set_option linter.unusedSimpArgs false
theorem FfX.repF {φ : Phi} {g : Bool} {a1 : Option Addr} {k1 c1 : Nat} {a2 : Option Addr} {k2 c2 : Nat} {x : Rat} {N D : Nat} (h : FfX φ (.agg #[.bool g, .slice a1 k1 c1, .slice a2 k2 c2]) x N D) : Rep.rep φ (⟨x⟩ : Fx N D) [.bool g, .slice a1 k1 c1, .slice a2 k2 c2] := ⟨g, a1, k1, c1, a2, k2, c2, rfl, h⟩
theorem zeroSlF (w : World) : (zeroValue 72).run Tryz.prog w = .ok (.slice none 0 0) w := by kernel_rfl
noncomputable abbrev clF (l : List Psn) (N i : Nat) : Int → List (Fx N N) := fun c => (clsQ l i c).map (Fx.mk (N := N) (D := N))
noncomputable abbrev soF (l : List Psn) (an : List Bool) (N i : Nat) : Int → List (Fx N N) := fun c => (somQ l an i c).map (Fx.mk (N := N) (D := N))
/-- Block r goes over the map of block b, whose headers are hd; the keys of S have been met. -/
def RngH (w : World) (b r : Nat) (hd : Int → Option Hdr) (S : List Int) : Prop := ∃ M, RngW vH w b r M S ∧ ∀ k, mget M k = hd k
section
variable {α : Type} [Rep α] {w w' : World} {φ : Phi} {b r : Nat} {hd : Int → Option Hdr} {f : Int → List α} {S : List Int}
theorem RngH.lt (h : RngH w b r hd S) : b < w.heap.size ∧ r < w.heap.size ∧ r ≠ b := by obtain ⟨M, h, _⟩ := h; exact h.lt
theorem RngH.callB (h : RngH w b r hd S) (hb : Below w.heap.size w w') : RngH w' b r hd S := by obtain ⟨M, h, e⟩ := h; exact ⟨M, h.callB hb, e⟩
theorem RngH.kept (h : RngH w b r hd S) (hb : w'.heap[b]? = w.heap[b]?) (hr : w'.heap[r]? = w.heap[r]?) : RngH w' b r hd S := by obtain ⟨M, h, e⟩ := h; exact ⟨M, h.kept hb hr, e⟩
variable {ops : Array Oper} {rest : List Oper} {o : Oper} {a : Act} {Q : Exit → Act → World → Prop}
theorem wpList_range_H (hg : o.guard = none) (m : Operand) (hop : o.op = Op.range 81 m) (hm : a.eval m = .map (some b)) (h : GmF φ b hd f) (hf : Fz φ w)
    (hK : ∀ w', RngH w' b w.heap.size hd [] → Below w.heap.size w w' → w'.heap.size = w.heap.size + 1 → wpList Tryz.prog ops Q rest (a.put o.dst (.pointer (some ⟨w.heap.size, 0, none⟩))) w') : wpList Tryz.prog ops Q (o :: rest) a w := by
  refine wpList_plain hg fun K' hK' => ?_
  obtain ⟨ob, M, h1, h2, h3⟩ := h.map
  obtain ⟨o', hrun, hr⟩ := RngW.start (P := Tryz.prog) Tryz.underlying81 (hf _ _ h1) h2
  unfold Oper.wp
  simp [execOp, hop, hm, hrun, Result.andThen]
  exact hK' _ _ (hK _ ⟨M, hr, h3⟩ ((Below.refl _ _).alloc (Nat.le_refl _) _) (by simp))
theorem wpList_next_H (hg : o.guard = none) (it : Operand) (hop : o.op = Op.next it false) (hit : a.eval it = .pointer (some ⟨r, 0, none⟩)) (h : RngH w b r hd S)
    (hDone : (∀ k x, hd k = some x → k ∈ S) → wpList Tryz.prog ops Q rest (a.put o.dst (.tuple #[.bool false])) w)
    (hMore : ∀ (k : Int) (x : Hdr) (w' : World), hd k = some x → k ∉ S → RngH w' b r hd (k :: S) → w.grownBy w' (some r) → w'.heap.size = w.heap.size → w'.rangeLeft b r < w.rangeLeft b r → (Instr.entry (.pointer (some ⟨r, 0, none⟩))).run Tryz.prog w' = .ok (.tuple #[.int .i64 k, .slice x.a x.n x.c]) w' →
      wpList Tryz.prog ops Q rest (a.put o.dst (.tuple #[.bool true, .int .i64 k, .slice x.a x.n x.c])) w') : wpList Tryz.prog ops Q (o :: rest) a w := by
  refine wpList_plain hg fun K' hK' => ?_
  obtain ⟨M, h, e⟩ := h
  have hnd : (M.map (·.1)).Nodup := by obtain ⟨es, clock, since, seen, c0, hb, hm, _⟩ := h; exact hm.nodup
  unfold Oper.wp
  rcases h.next (P := Tryz.prog) o.type with ⟨h0, hrun⟩ | ⟨k, x, v, w', h1, h2, h3, hrun, h4, h5, h6, h7, h8⟩
  · simp [execOp, hop, hit, hrun, Result.andThen]
    exact hK' _ _ (hDone fun k x hk => h0 k x (mem_of_mget (by rw [e]; exact hk)))
  · cases h3
    simp [execOp, hop, hit, hrun, Result.andThen]
    exact hK' _ _ (hMore k x w' (by rw [← e]; exact mget_of_mem hnd h1) h2 ⟨M, h4, e⟩ h5 h6 h7 h8)
/-- A slice of the call's own, while a map is ranged over. -/
structure RnS {β : Type} [Rep β] (E : TypeId) (w0 : World) (φ0 φ : Phi) (aw : Option Addr) (cw : Nat) (ws : List β) (b r : Nat) (hd : Int → Option Hdr) (S : List Int) (W : World) : Prop where
  own : OwG w0 φ0 φ E aw cw ws W
  rg : RngH W b r hd S
  lo : w0.heap.size ≤ r
  fr : φ r = none
  nw : ∀ x, aw = some x → x.block ≠ r
variable {β : Type} [Rep β] {E : TypeId} {w0 W : World} {φ0 φ' : Phi} {aw : Option Addr} {cw : Nat} {ws : List β} {S' : List Int}
theorem RnS.next (h : RnS E w0 φ0 φ aw cw ws b r hd S W) (hg : W.grownBy w' (some r)) (hR : RngH w' b r hd S') : RnS E w0 φ0 φ aw cw ws b r hd S' w' :=
  ⟨⟨h.own.inv.write h.lo h.fr hg, h.own.own.other hg (fun x hx e => h.nw x hx (Option.some.inj e))⟩, hR, h.lo, h.fr, h.nw⟩
theorem RnS.call (h : RnS E w0 φ0 φ aw cw ws b r hd S W) (hi : Inv W.heap.size W φ φ' w') : RnS E w0 φ0 φ' aw cw ws b r hd S w' :=
  ⟨h.own.call hi, h.rg.callB hi.bel, h.lo, (hi.new _ h.rg.lt.2.1).trans h.fr, h.nw⟩
theorem RnS.callB (h : RnS E w0 φ0 φ aw cw ws b r hd S W) (hb : Below W.heap.size W w') : RnS E w0 φ0 φ aw cw ws b r hd S w' :=
  ⟨h.own.callB hb, h.rg.callB hb, h.lo, h.fr, h.nw⟩
theorem RnS.new (h : OwG w0 φ0 φ E aw cw ws W) (hb : Below W.heap.size W w') (hR : RngH w' b W.heap.size hd []) : RnS E w0 φ0 φ aw cw ws b W.heap.size hd [] w' :=
  ⟨h.callB hb, hR, h.inv.size, h.inv.fz.new_none (Nat.le_refl _), fun x hx => by have := (h.own.lt x hx).2; omega⟩
end
theorem MapO.imp {κ α : Type} [DecidableEq κ] [Key κ] {vr vr' : α → Value → Prop} {o : Obj} {m : List (κ × α)} (h : MapO vr o m) (hv : ∀ x v, vr x v → vr' x v) : MapO vr' o m := by
  obtain ⟨⟨es, clock, h1, h2, h3, h4, h5⟩, nd⟩ := h
  exact ⟨⟨es, clock, h1, h2, fun i hi => by obtain ⟨e, e1, e2, e3⟩ := h3 i hi; exact ⟨e, e1, e2, hv _ _ e3⟩, h4, h5⟩, nd⟩
/-- Block r is a map of exact numbers of the call's own: the keys of S have q. -/
structure FcM (N D : Nat) (B : Nat) (φ : Phi) (r : Nat) (q : Int → Rat) (S : List Int) (W : World) : Prop where
  m : ∃ o M, W.heap[r]? = some o ∧ MapO (fun (x : Rat) v => FfX φ v x N D) o M ∧ ∀ k ∈ S, mget M k = some (q k)
  lo : B ≤ r
  fr : φ r = none
section
variable {N D B : Nat} {φ φ' : Phi} {r : Nat} {q : Int → Rat} {S : List Int} {W w' : World}
theorem FcM.lt (h : FcM N D B φ r q S W) : r < W.heap.size := by obtain ⟨o, M, h1, _⟩ := h.m; exact (Array.getElem?_eq_some_iff.1 h1).1
theorem FcM.kept (h : FcM N D B φ r q S W) (hr : w'.heap[r]? = W.heap[r]?) : FcM N D B φ r q S w' := by
  obtain ⟨o, M, h1, h2⟩ := h.m
  exact ⟨⟨o, M, hr.trans h1, h2⟩, h.lo, h.fr⟩
theorem FcM.callB (h : FcM N D B φ r q S W) (hb : Below W.heap.size W w') : FcM N D B φ r q S w' := h.kept (hb.block r h.lt)
theorem FcM.call (h : FcM N D B φ r q S W) (hi : Inv W.heap.size W φ φ' w') : FcM N D B φ' r q S w' := by
  obtain ⟨o, M, h1, h2, h3⟩ := h.m
  exact ⟨⟨o, M, (hi.bel.block r h.lt).trans h1, h2.imp (fun x v hv => hv.mono hi.le), h3⟩, h.lo, (hi.new r h.lt).trans h.fr⟩
theorem FcM.new {w0 : World} {φ0 : Phi} (hi : Inv B w0 φ0 φ W) : FcM N D B φ W.heap.size q [] (W.alloc (.map #[] 0)) :=
  ⟨⟨_, [], heap_alloc_new W _, MapO.empty, fun k hk => by cases hk⟩, hi.size, hi.fz.new_none (Nat.le_refl _)⟩
/-- A key more. -/
theorem FcM.put (h : FcM N D B φ r q S W) {P : Program} {T kt et : TypeId} (ht : P.underlying T = some (.map kt et)) (hk : P.underlying kt = some (Key.d Int)) {k : Int} {v : Value} (hv : FfX φ v (q k) N D) :
    ∃ o, (Instr.mapUpdate T (.map (some r)) (.int .i64 k) v).run P W = .ok () (setMap W r o) ∧ FcM N D B φ r q (k :: S) (setMap W r o) := by
  obtain ⟨o, M, h1, h2, h3⟩ := h.m
  have key := run_mapUpdate (P := P) (w := W) ht hk h1 h2 k (x := q k) (v := v) hv
  refine ⟨_, key.1, ⟨⟨_, _, setMap_same _ h.lt, key.2, fun k' hk' => ?_⟩, h.lo, h.fr⟩⟩
  rw [mget_mput]
  by_cases e : k' = k
  · rw [if_pos e, e]
  · rw [if_neg e]
    rcases List.mem_cons.1 hk' with e2 | e2
    · exact absurd e2 e
    · exact h3 k' e2
theorem FcM.look (h : FcM N D B φ r q S W) {P : Program} {T kt et : TypeId} (ht : P.underlying T = some (.map kt et)) (hk : P.underlying kt = some (Key.d Int)) {z : Value} (hz : ∀ w, (zeroValue et).run P w = .ok z w) {k : Int} (hS : k ∈ S) :
    ∃ v, (Instr.lookup T (.map (some r)) (.int .i64 k) false).run P W = .ok v W ∧ FfX φ v (q k) N D := by
  obtain ⟨o, M, h1, h2, h3⟩ := h.m
  rcases run_lookup (P := P) (w := W) ht hk h1 h2 k false (hz W) with ⟨x, v, q1, q2, q3⟩ | ⟨q1, q3⟩
  · rw [h3 k hS] at q1; cases q1
    exact ⟨v, q3, q2⟩
  · rw [h3 k hS] at q1; cases q1
end
theorem rangeLeft_kept {w w' : World} {b r : Nat} (hb : w'.heap[b]? = w.heap[b]?) (hr : w'.heap[r]? = w.heap[r]?) : w'.rangeLeft b r = w.rangeLeft b r := by
  unfold World.rangeLeft
  rw [hb, hr]
theorem RnS.oth {β : Type} [Rep β] {E : TypeId} {w0 W w' : World} {φ0 φ : Phi} {aw : Option Addr} {cw : Nat} {ws : List β} {b r g : Nat} {hd : Int → Option Hdr} {S : List Int} (h : RnS E w0 φ0 φ aw cw ws b r hd S W) (hg : W.grownBy w' (some g)) (lo : w0.heap.size ≤ g) (fr : φ g = none) (n1 : b ≠ g) (n2 : r ≠ g) (n3 : ∀ x, aw = some x → x.block ≠ g) : RnS E w0 φ0 φ aw cw ws b r hd S w' :=
  ⟨⟨h.own.inv.write lo fr hg, h.own.own.other hg (fun x hx e => n3 x hx (Option.some.inj e))⟩, h.rg.kept (hg.block b h.rg.lt.1 (fun e => n1 (Option.some.inj e))) (hg.block r h.rg.lt.2.1 (fun e => n2 (Option.some.inj e))), h.lo, h.fr, h.nw⟩
theorem RawX.of {φ : Phi} {N D : Nat} : ∀ {rs : List Raw3} {xs : List Rat}, rs.length = xs.length → (∀ m, m < rs.length → FfX φ (rs.getD m raw0).v (xs.getD m 0) N D) → RawX φ N D rs xs
  | [], [], _, _ => trivial
  | [], x :: xs, h, _ => by simp at h
  | r :: rs, [], h, _ => by simp at h
  | r :: rs, x :: xs, h, hx => ⟨by have := hx 0 (by simp); simpa using this, RawX.of (by simpa using h) (fun m hm => by have := hx (m + 1) (by simpa using hm); simpa using this)⟩
theorem FfX.raw {φ : Phi} {v : Value} {x : Rat} {N D : Nat} (h : FfX φ v x N D) : ∃ y : Raw3, v = y.v := by
  obtain ⟨g, n, d, k1, k2, a1, c1, a2, c2, rfl, _⟩ := h.open
  exact ⟨⟨g, a1, k1, c1, a2, k2, c2⟩, rfl⟩
theorem zeroFr (w : World) : (zeroValue 63).run Tryz.prog w = .ok (.agg #[.bool false, .slice none 0 0, .slice none 0 0]) w := by kernel_rfl
noncomputable def facQ (l : List Psn) (an : List Bool) (n : Nat) (c : Int) : Rat := sumQ (clsQ l n c) / sumQ (somQ l an n c)
set_option maxRecDepth 100000 in
set_option maxHeartbeats 4000000 in
theorem Respond_any {M : Nat} (hD : Hid (DivOk M)) (hM : LenB M) (hM2 : p10 2000 ≤ M) {n : Nat} (hB : Hid (n ≤ 3000 → RpB M 1000000000000 1000000000000 n)) {a : Option Addr} {cap : Nat} {l : List Psn} {w : World} {φ : Phi} (hφ : Fz φ w) (hp : PowP φ) (sl : SlV φ a cap l) (hn : Hid (l.length = n)) (hsz : Hid (∀ p ∈ l, PsnG p)) {aa : Option Addr} {ca : Nat} {an : List Bool} (sa : SlV φ aa ca an) {ma : Nat} (hna : Hid (an.length = ma)) {L : List Rti} {F : Int} (hR : Hid (respR l an = (L, F))) :
    Calls Tryz.prog 14 #[.slice a n cap, .slice aa ma ca] w (SlPost (L, F) φ w) := by
  have HP := Lib.hid hp
  have HM2 := Lib.hid hM2
  have hnl : n ≤ 9223372036854775807 := by have := sl.capn; have := sl.capm; rw [hn.out] at *; unfold maxLen at *; omega
  have hnl2 : ma ≤ 9223372036854775807 := by have := sa.capn; have := sa.capm; rw [hna.out] at *; unfold maxLen at *; omega
  obtain ⟨f, hf⟩ : ∃ f, Hid (pplF l = f) := ⟨_, Lib.hid rfl⟩
  have HI := Lib.hid (Inv.start hφ)
  clear hφ hp hM2
  by_cases hf0 : f = 0
  case neg =>
    have hE : Hid (([], f) = (L, F)) := Lib.hid (by rw [← hR.out]; unfold respR; rw [if_pos (by rw [hf.out]; exact hf0), hf.out])
    have h0i : (f == 0) = false := by simp [hf0]
    have h0j : (f != 0) = true := by simp [hf0]
    clear hf0 hB hR
    go_enter Tryz.func14, Tryz.ntmps14
    go_wp2_with (go_at_call 35; (with_reducible refine (peopleFault_any hD HM2.out HI.out.fz sl hn hsz hf).mono ?_); rintro e w1 ⟨rfl, hb1⟩; have I1 := Lib.hid (HI.out.callB hb1); clear hb1)
    go_ret2
    have := hE.out
    injection this with e1 e2
    subst e1 e2
    exact ⟨none, 0, φ, rfl, I1.out, SlV.empty φ⟩
  case pos =>
    subst hf0
    by_cases hmn : ma = n
    case neg =>
      have hE : Hid (([], 3) = (L, F)) := Lib.hid (by rw [← hR.out]; exact (respR_form hf.out (by rw [hna.out, hn.out]; exact hmn)).symm)
      have hmi : ((ma : Int) == n) = false := by simp; omega
      have hmj : ((ma : Int) != n) = true := by simp; omega
      clear hmn hB hR
      go_enter Tryz.func14, Tryz.ntmps14
      go_wp2_with (go_at_call 35; (with_reducible refine (peopleFault_any hD HM2.out HI.out.fz sl hn hsz hf).mono ?_); rintro e w1 ⟨rfl, hb1⟩; have I1 := Lib.hid (HI.out.callB hb1); clear hb1)
      go_ret2
      have := hE.out
      injection this with e1 e2
      subst e1 e2
      exact ⟨none, 0, φ, rfl, I1.out, SlV.empty φ⟩
    case pos =>
      subst hmn
      obtain ⟨hn3', hall⟩ := pplF_ok hf.out
      rw [hn.out] at hn3' hall
      have hn3 := hn3'
      clear hn3'
      have hok : Hid (∀ p ∈ l, shoF p.1.1 p.1.2 = 0) := Lib.hid (fun p hpm => by
        obtain ⟨i, hi, e⟩ := List.getElem_of_mem hpm
        have := hall i (by rw [← hn.out]; exact hi)
        rw [getD_elem0 _ _ _ hi, e] at this
        exact (psnF_ok this).1)
      obtain ⟨xs, hxs⟩ : ∃ xs, l.map (fun p => ratX p.1.1 p.1.2) = xs := ⟨_, rfl⟩
      have hxn : Hid (xs.length = ma) := Lib.hid (by rw [← hxs, List.length_map, hn.out])
      have hW : l.map fxW = xs.map (Fx.mk (N := 1000000000000) (D := 1000000000000)) := by rw [← hxs, List.map_map]; rfl
      have hxw : Hid (∀ k, k < ma → xs.getD k 0 = wgtQ l k) := Lib.hid (fun k hk => by
        have h1 : k < l.length := by rw [hn.out]; exact hk
        rw [← hxs]
        unfold wgtQ
        simp [List.getD_eq_getElem?_getD, List.getElem?_map, h1])
      have hwp : Hid (∀ j, j < ma → 0 < wgtQ l j) := Lib.hid (fun j hj => (psnF_ok (hall j hj)).2)
      have HC7 := Lib.hid (fun W (hf9 : Fz φ W) => weightsOf_own hD HM2.out hf9 sl hn hn3 hsz hok)
      rw [hW] at HC7
      have HB := Lib.hid (hB.out hn3)
      have hRz := Lib.hid (fun k (hk : k < ma) (hz : ownQ l an k = 0) => (hR.out).symm.trans (respR_zero hf.out hn.out hna.out hk hz))
      have hRo := Lib.hid (fun (hz : ∀ k, k < ma → ownQ l an k ≠ 0) => (respR_ok hf.out hn.out hna.out hz).symm.trans hR.out)
      clear hW hok hB hall hxs hR
      obtain ⟨N, hN⟩ : ∃ N, N = 1000000000000 := ⟨_, rfl⟩
      rw [← hN] at HC7 HB
      have hN1 : 1 ≤ N := by omega
      clear hN
      obtain ⟨NX, hNX⟩ : ∃ x, Hid (N * (ma * N * N ^ ma) * N ^ ma = x) := ⟨_, Lib.hid rfl⟩
      obtain ⟨DX, hDX⟩ : ∃ x, Hid (N * N ^ ma * (ma * N * N ^ ma) = x) := ⟨_, Lib.hid rfl⟩
      have hmm := @run_makeMap Tryz.prog
      have HSA := Lib.hid sa
      have HSL := Lib.hid sl
      clear sa sl
      go_enter Tryz.func14, Tryz.ntmps14
      go_upto_region 8 with (first
        | (go_at_call 36; (with_reducible refine (HC7.out _ ((I1.out.alloc (.map #[] 0)).alloc (.map #[] 0)).fz).mono ?_); rintro e w2 ⟨aw, cw, φ1, rfl, hi2, ho2⟩; obtain ⟨rs, hrl, hor, hrx⟩ := ho2.raw; have hS0 := Lib.hid (Rg2.start (α := Fx N N) I1.out hi2 hor); have HRX := Lib.hid hrx; have HRL := Lib.hid hrl; clear hi2 ho2 hor hrx hrl)
        | (go_at_call 35; (with_reducible refine (peopleFault_any hD HM2.out HI.out.fz HSL.out hn hsz hf).mono ?_); rintro e w1 ⟨rfl, hb1⟩; have I1 := Lib.hid (HI.out.callB hb1); clear hb1))
      have hfx : (xs.map (Fx.mk (N := N) (D := N))).map Fx.x = xs := by rw [List.map_map]; exact List.map_id _
      have hrx := HRX.out
      rw [hfx] at hrx
      have HR := Lib.hid hrx
      have hrn : Hid (rs.length = ma) := Lib.hid (by rw [HRL.out, List.length_map, hxn.out])
      have L1 := Lib.hid hS0.out.own.inv.le
      clear HRX hfx hrx HRL HC7 I1
      generalize w1.heap.size = r1 at *
      go_wp2
      go_loopw [33] (fun iv wr => ∃ (i : Nat) (φ' : Phi) (hd1 hd2 : Int → Option Hdr), i ≤ ma ∧ iv = .int .i64 (i : Int) ∧ Hid (φ1.le φ') ∧ Hid (Rg2 (α := Fx N N) 63 w φ φ' aw cw rs r1 hd1 (clF l N i) (r1 + 1) hd2 (soF l an N i) wr) ∧ Hid (∀ k h, hd1 k = some h → clsQ l i k ≠ [])) (fun iv _ => ma - (intOf iv).toNat)
      case atStart => exact ⟨0, φ1, _, _, Nat.zero_le _, rfl, Lib.hid φ1.le_refl, hS0, Lib.hid (fun k h e => by cases e)⟩
      case round =>
        clear hS0
        obtain ⟨i, φ', hd1, hd2, hi, rfl, hle, hS, hpos⟩ := hrel
        by_cases hlt : i < ma
        · have hlti : (i : Int) < (ma : Int) := by omega
          obtain ⟨b, off, rfl, fp⟩ := HSL.out.psnsD hn hlt
          obtain ⟨ba, oa, rfl, fa⟩ := HSA.out.boolsV hna hlt
          obtain ⟨ar0, cr0, _, f2⟩ := fp i hlt
          obtain ⟨d0, d1, d2, d3, d4, d5⟩ := f2 wr (hS.out.own.inv.fz.sub hS.out.own.inv.le)
          have hck : Hid (clsI l i = (l.getD i psn0).2.2.1) := Lib.hid rfl
          generalize l.getD i psn0 = p at *
          obtain ⟨⟨s0, t0⟩, cl, x0, y0, z0⟩ := p
          dsimp only at d0 d1 d2 d3 d4 d5 hck
          obtain ⟨m0, hm9⟩ : ∃ m, cl.length = m := ⟨_, rfl⟩
          rw [hm9] at d2
          obtain ⟨φp, lp, ip, ep⟩ := (Inv.start hS.out.own.inv.fz).frz (.cells #[.string s0, .string t0, .slice ar0 m0 cr0, .int .i64 x0, .int .i64 y0, .int .i64 z0] 43)
          have S1 := Lib.hid (hS.out.call ip)
          have LP := Lib.hid (hle.out.trans lp)
          have EP := Lib.hid ep
          have hx := HR.out.get i (by rw [hrn.out]; exact hlt)
          rw [hxw.out i hlt] at hx
          obtain ⟨gw, rfl, _, _, _, q0, q1, q2, _, _⟩ := S1.out.own.own.rawD hrn hlt
          have hrd := Lib.hid (fun W (h : Own w.heap.size φp W 63 (some ⟨gw, 0, none⟩) cw rs) => h.rawD hrn hlt)
          generalize rs.getD i raw0 = ry at *
          obtain ⟨gx, ax, kx, cx, ay, ky, cy⟩ := ry
          dsimp only at q0 q1 q2 hrd
          have HX : Hid (FfX φp (.agg #[.bool gx, .slice ax kx cx, .slice ay ky cy]) (wgtQ l i) N N) := Lib.hid (hx.mono LP.out)
          have hcells : Hid (∀ W, Own w.heap.size φp W 63 (some ⟨gw, 0, none⟩) cw rs → W.cell? ⟨gw, i * 3, none⟩ = some (.bool gx) ∧ W.cell? ⟨gw, i * 3 + 1, none⟩ = some (.slice ax kx cx) ∧ W.cell? ⟨gw, i * 3 + 2, none⟩ = some (.slice ay ky cy)) := Lib.hid (fun W h => by
            obtain ⟨g', e', _, _, _, p0, p1, p2, _⟩ := hrd.out W h
            cases e'
            exact ⟨p0, p1, p2⟩)
          clear fp f2 hm9 hS lp ip ep hx hrd hle q0 q1 q2
          go_upto_region 11 with fail
          generalize wr.alloc (.cells #[.string s0, .string t0, .slice ar0 m0 cr0, .int .i64 x0, .int .i64 y0, .int .i64 z0] 43) = wz at *
          generalize wr.heap.size = bp at *
          clear d0 d1 d2 d3 d4 d5
          have hbox : Hid (∀ (ψ : Phi) (W : World), φp.le ψ → Fz ψ W → W.cell? ⟨bp, 3, none⟩ = some (.int .i64 x0)) := Lib.hid (fun ψ W hl hf => box_cell EP.out hl hf 3)
          have HPOS : Hid (∀ (hdr : Option Hdr) k h, updK hd1 x0 hdr k = some h → clsQ l (i + 1) k ≠ []) := Lib.hid (fun hdr k h e => by
            unfold updK at e
            by_cases hk : k = x0
            · rw [hk, ← hck.out]; exact clsQ_mem (Nat.lt_succ_self i)
            · rw [if_neg hk] at e
              rw [clsQ_step, if_neg (by rw [hck.out]; exact hk)]
              exact hpos.out k h e)
          obtain ⟨a, c, hlk, hoR, hhd⟩ := S1.out.g1.look Tryz.underlying81 Tryz.underlying3 zeroSlF x0
          obtain ⟨Lc, hLc⟩ : ∃ L, clF l N i x0 = L := ⟨_, rfl⟩
          have hLl : Lc.length ≤ 3000 := by
            rw [← hLc]
            show ((clsQ l i x0).map _).length ≤ 3000
            rw [List.length_map]
            have := clsQ_len (l := l) (i := i) x0
            omega
          rw [hLc] at hlk hoR hhd
          have HHD : Hid (hd1 x0 = some ⟨a, (clF l N i x0).length, c⟩ ∨ (hd1 x0 = none ∧ a = none ∧ c = 0)) := Lib.hid (by rw [hLc]; exact hhd)
          have HF1 : Hid (updK (clF l N i) x0 (Lc ++ [⟨wgtQ l i⟩]) = clF l N (i + 1)) := Lib.hid (by rw [← hLc]; exact clsQ_upd N N hck.out)
          have HOR := Lib.hid (hoR.alloc (.cells #[.bool gx, .slice ax kx cx, .slice ay ky cy] 63)).drew
          have HMD := Lib.hid (S1.out.callB ((Below.refl _ _).alloc (Nat.le_refl _) (.cells #[.bool gx, .slice ax kx cx, .slice ay ky cy] 63))).drew
          have SDr := Lib.hid S1.out.drew
          have hrl := S1.out.g1.lt
          have hlk0 : (Instr.lookup 81 (.map (some r1)) (.int .i64 x0) false).run Tryz.prog wz.drew = .ok (.slice a Lc.length c) wz.drew := hlk _ rfl
          have hlkA : (Instr.lookup 81 (.map (some r1)) (.int .i64 x0) false).run Tryz.prog (wz.alloc (.cells #[.bool gx, .slice ax kx cx, .slice ay ky cy] 63)).drew = .ok (.slice a Lc.length c) (wz.alloc (.cells #[.bool gx, .slice ax kx cx, .slice ay ky cy] 63)).drew := hlk _ (heap_alloc_old _ _ hrl)
          obtain ⟨v0, v1, v2⟩ := hcells.out _ SDr.out.own.own
          have v3 := hbox.out _ _ φp.le_refl SDr.out.own.inv.fz
          obtain ⟨u0, u1, u2⟩ := hcells.out _ HMD.out.own.own
          have u3 := hbox.out _ _ φp.le_refl HMD.out.own.inv.fz
          clear hlk hoR hhd hLc
          apply wp_region_cut (S := fun W => ∃ hd', Hid (Rg2 (α := Fx N N) 63 w φ φp (some ⟨gw, 0, none⟩) cw rs r1 hd' (clF l N (i + 1)) (r1 + 1) hd2 (soF l an N i) W) ∧ Hid (∀ k h, hd' k = some h → clsQ l (i + 1) k ≠ []))
          case h1 =>
            go_region_held_law (fun w' => w'.cell? ⟨gw, i * 3, none⟩ = some (.bool gx) ∧ w'.cell? ⟨gw, i * 3 + 1, none⟩ = some (.slice ax kx cx) ∧ w'.cell? ⟨gw, i * 3 + 2, none⟩ = some (.slice ay ky cy) ∧ w'.cell? ⟨bp, 3, none⟩ = some (.int .i64 x0)) (first | with_reducible exact ⟨v0, v1, v2, v3⟩ | with_reducible exact ⟨u0, u1, u2, u3⟩ | with_reducible exact ⟨by assumption, by assumption, by assumption, by assumption⟩) (first | (refine step_appF (α := Fx N N) (by rfl) _ _ _ (by rfl) (slFx N N) HMD.out.own.inv a c _ (by rfl) HOR.out ⟨wz.heap.size, 0, none⟩ 1 [⟨wgtQ l i⟩] [.bool gx, .slice ax kx cx, .slice ay ky cy] 1 (by rfl) (by rfl) (RepL.single (FfX.repF HX.out)) (new_cells wz #[.bool gx, .slice ax kx cx, .slice ay ky cy] 63) (by show (Lc.length + 1) * 56 ≤ 140737488355328; omega) ?_; intro a5 c5 w5 hi5 ho5 hg5 hf5; obtain ⟨o5, hup, hM5, hw5, hm5⟩ := HMD.out.put Tryz.underlying81 Tryz.underlying3 (k := x0) HHD.out (n := Lc.length + 1) (by simp) hi5 ho5 hg5 hf5; have HM5 := Lib.hid hM5; have hup5 := hup w5 hm5; obtain ⟨s0, s1, s2⟩ := hcells.out _ hw5; have s3 := hbox.out _ _ φp.le_refl hi5.fz; obtain ⟨t0, t1, t2⟩ := hcells.out _ hM5.own.own; have t3 := hbox.out _ _ φp.le_refl hM5.own.inv.fz; clear hup hM5 hi5 ho5 hg5 hf5 hw5 hm5))
            all_goals
              refine onlyN_mk ⟨a5, c5, rfl, _, Lib.hid (by have h := HM5.out; rw [HF1.out] at h; exact h), Lib.hid (HPOS.out _)⟩
          case h2 =>
            intro x5 c5 W9 hM5
            obtain ⟨hd5, HM5, HP5⟩ := hM5
            clear v0 v1 v2 v3 u0 u1 u2 u3 hlk0 hlkA HMD SDr HOR HHD hrl S1
            have FA := Lib.hid fa
            obtain ⟨ai, hai⟩ : ∃ b, Hid (an.getD i false = b) := ⟨_, Lib.hid rfl⟩
            have q9 : W9.cell? ⟨ba, oa + i, none⟩ = some (.bool ai) := by rw [← hai.out]; exact FA.out i hlt W9 (HM5.out.own.inv.fz.sub HM5.out.own.inv.le)
            cases ai
            · have HM6 : Hid (Rg2 (α := Fx N N) 63 w φ φp (some ⟨gw, 0, none⟩) cw rs r1 hd5 (clF l N (i + 1)) (r1 + 1) hd2 (soF l an N (i + 1)) W9) := Lib.hid (by
                have h := HM5.out
                have e : soF l an N i = soF l an N (i + 1) := by funext c; show List.map _ (somQ l an i c) = List.map _ (somQ l an (i + 1) c); rw [somQ_no hai.out]
                rw [e] at h
                exact h)
              go_wp2
              go_roundw
              case rel => exact ⟨i + 1, φp, hd5, hd2, by omega, by go_num, LP, HM6, HP5⟩
              case measure => (simp [intOf] <;> omega)
            · go_upto_region 13 with fail
              clear q9
              have S2 := Lib.hid HM5.out.swap
              obtain ⟨a, c, hlk, hoR, hhd⟩ := S2.out.g1.look Tryz.underlying81 Tryz.underlying3 zeroSlF x0
              obtain ⟨Lc, hLc⟩ : ∃ L, soF l an N i x0 = L := ⟨_, rfl⟩
              have hLl : Lc.length ≤ 3000 := by
                rw [← hLc]
                show ((somQ l an i x0).map _).length ≤ 3000
                rw [List.length_map]
                have := somQ_len (l := l) (an := an) (i := i) x0
                omega
              rw [hLc] at hlk hoR hhd
              have HHD : Hid (hd2 x0 = some ⟨a, (soF l an N i x0).length, c⟩ ∨ (hd2 x0 = none ∧ a = none ∧ c = 0)) := Lib.hid (by rw [hLc]; exact hhd)
              have HF2 : Hid (updK (soF l an N i) x0 (Lc ++ [⟨wgtQ l i⟩]) = soF l an N (i + 1)) := Lib.hid (by rw [← hLc]; exact somQ_upd N N hck.out hai.out)
              have HOR := Lib.hid (hoR.alloc (.cells #[.bool gx, .slice ax kx cx, .slice ay ky cy] 63)).drew
              have HMD := Lib.hid (S2.out.callB ((Below.refl _ _).alloc (Nat.le_refl _) (.cells #[.bool gx, .slice ax kx cx, .slice ay ky cy] 63))).drew
              have SDr := Lib.hid S2.out.drew
              have hrl := S2.out.g1.lt
              have hlk0 : (Instr.lookup 81 (.map (some (r1 + 1))) (.int .i64 x0) false).run Tryz.prog W9.drew = .ok (.slice a Lc.length c) W9.drew := hlk _ rfl
              have hlkA : (Instr.lookup 81 (.map (some (r1 + 1))) (.int .i64 x0) false).run Tryz.prog (W9.alloc (.cells #[.bool gx, .slice ax kx cx, .slice ay ky cy] 63)).drew = .ok (.slice a Lc.length c) (W9.alloc (.cells #[.bool gx, .slice ax kx cx, .slice ay ky cy] 63)).drew := hlk _ (heap_alloc_old _ _ hrl)
              obtain ⟨v0, v1, v2⟩ := hcells.out _ SDr.out.own.own
              have v3 := hbox.out _ _ φp.le_refl SDr.out.own.inv.fz
              obtain ⟨u0, u1, u2⟩ := hcells.out _ HMD.out.own.own
              have u3 := hbox.out _ _ φp.le_refl HMD.out.own.inv.fz
              clear hlk hoR hhd hLc
              apply wp_region_cut (S := fun W => ∃ hd', Hid (Rg2 (α := Fx N N) 63 w φ φp (some ⟨gw, 0, none⟩) cw rs (r1 + 1) hd' (soF l an N (i + 1)) r1 hd5 (clF l N (i + 1)) W))
              case h1 =>
                go_region_held_law (fun w' => w'.cell? ⟨gw, i * 3, none⟩ = some (.bool gx) ∧ w'.cell? ⟨gw, i * 3 + 1, none⟩ = some (.slice ax kx cx) ∧ w'.cell? ⟨gw, i * 3 + 2, none⟩ = some (.slice ay ky cy) ∧ w'.cell? ⟨bp, 3, none⟩ = some (.int .i64 x0)) (first | with_reducible exact ⟨v0, v1, v2, v3⟩ | with_reducible exact ⟨u0, u1, u2, u3⟩ | with_reducible exact ⟨by assumption, by assumption, by assumption, by assumption⟩) (first | (refine step_appF (α := Fx N N) (by rfl) _ _ _ (by rfl) (slFx N N) HMD.out.own.inv a c _ (by rfl) HOR.out ⟨W9.heap.size, 0, none⟩ 1 [⟨wgtQ l i⟩] [.bool gx, .slice ax kx cx, .slice ay ky cy] 1 (by rfl) (by rfl) (RepL.single (FfX.repF HX.out)) (new_cells W9 #[.bool gx, .slice ax kx cx, .slice ay ky cy] 63) (by show (Lc.length + 1) * 56 ≤ 140737488355328; omega) ?_; intro a5 c5 w5 hi5 ho5 hg5 hf5; obtain ⟨o5, hup, hM5, hw5, hm5⟩ := HMD.out.put Tryz.underlying81 Tryz.underlying3 (k := x0) HHD.out (n := Lc.length + 1) (by simp) hi5 ho5 hg5 hf5; have HM5 := Lib.hid hM5; have hup5 := hup w5 hm5; obtain ⟨s0, s1, s2⟩ := hcells.out _ hw5; have s3 := hbox.out _ _ φp.le_refl hi5.fz; obtain ⟨t0, t1, t2⟩ := hcells.out _ hM5.own.own; have t3 := hbox.out _ _ φp.le_refl hM5.own.inv.fz; clear hup hM5 hi5 ho5 hg5 hf5 hw5 hm5))
                all_goals
                  refine onlyN_mk ⟨a5, c5, rfl, _, Lib.hid (by have h := HM5.out; rw [HF2.out] at h; exact h)⟩
              case h2 =>
                intro x6 c6 W8 hM6
                obtain ⟨hd6, HM6⟩ := hM6
                have HM7 := Lib.hid HM6.out.swap
                go_wp2
                go_roundw
                case rel => exact ⟨i + 1, φp, hd5, hd6, by omega, by go_num, LP, HM7, HP5⟩
                case measure => (simp [intOf] <;> omega)
        · obtain rfl : i = ma := by omega
          obtain ⟨φz, lz, hG, hm1, hm2⟩ := hS.out.frz
          have HG := Lib.hid hG
          have HM1 := Lib.hid hm1
          have HM2g := Lib.hid hm2
          have LZ := Lib.hid (hle.out.trans lz)
          clear hS hG hm1 hm2 lz hle
          go_wp2_with (at_range; refine wpList_range_H rfl _ rfl rfl HM1.out HG.out.inv.fz ?_; intro w3 hrg3 hb3 hs3)
          (try go_frame)
          have hR0 := Lib.hid (RnS.new HG.out hb3 hrg3)
          clear hrg3 hb3 hs3
          generalize wr.heap.size = ri at *
          clear HG
          go_loopw [] (fun wr => ∃ (S : List Int), Hid (RnS 63 w φ φz aw cw rs r1 ri hd1 S wr) ∧ Hid (∀ k ∈ S, somQ l an i k ≠ [])) (fun wr => wr.rangeLeft r1 ri)
          case atStart => exact ⟨[], hR0, Lib.hid (fun k hk => by cases hk)⟩
          case round =>
            clear hR0
            rename World => wr
            obtain ⟨S, hRn, hSk⟩ := hrel
            go_wp2_with (at_next; refine wpList_next_H rfl _ rfl rfl hRn.out.rg ?_ ?_)
            · intro hdone
              have hon : Hid (∀ k, k < i → ownQ l an k ≠ 0) := Lib.hid (fun k hk e => by
                have h1 : hd1 (clsI l k) ≠ none := fun e1 => by
                  have := HM1.out.none _ e1
                  exact clsQ_mem (l := l) hk (by simpa using this)
                obtain ⟨hh, h2⟩ := Option.ne_none_iff_exists'.1 h1
                have h3 := hSk.out _ (hdone _ _ h2)
                have h4 := somQ_pos (k := k) hn.out hwp.out h3
                rw [e] at h4
                exact absurd h4 (by decide))
              have HGo := Lib.hid hRn.out.own
              have hks : Hid (∀ k, k < i → hd1 (clsI l k) ≠ none) := Lib.hid (fun k hk e1 => by
                have := HM1.out.none _ e1
                exact clsQ_mem (l := l) hk (by simpa using this))
              have hso : Hid (∀ c h, hd1 c = some h → sumQ (somQ l an i c) ≠ 0) := Lib.hid (fun c h hc e => by
                obtain ⟨k, hk, hkc⟩ := clsQ_ex (hpos.out c h hc)
                subst hkc
                rw [somQ_sum] at e
                refine hon.out k hk ?_
                unfold ownQ
                rw [hn.out]; exact e)
              clear hdone hRn hSk
              have HF0 := Lib.hid (FcM.new (N := i * N * N ^ i * N ^ i) (D := N ^ i * (i * N * N ^ i)) (q := facQ l an i) HGo.out.inv)
              have hawn : Hid (∀ x, aw = some x → x.block ≠ wr.heap.size) := Lib.hid (fun x hx => by have := (HGo.out.own.lt x hx).2; omega)
              have hr1n : Hid (r1 ≠ wr.heap.size) := Lib.hid (by
                obtain ⟨o, M, h1, _⟩ := HM1.out.map
                have := (Array.getElem?_eq_some_iff.1 (HGo.out.inv.fz _ _ h1)).1
                omega)
              have HGa := Lib.hid (HGo.out.alloc (.map #[] 0))
              go_wp2_with (at_range; refine wpList_range_H rfl _ rfl rfl HM1.out HGa.out.inv.fz ?_; intro w4 hrg4 hb4 hs4)
              (try go_frame)
              have hR0 := Lib.hid (RnS.new HGa.out hb4 hrg4)
              have hF4 := Lib.hid (HF0.out.callB hb4)
              have hri : (wr.alloc (.map #[] 0)).heap.size = wr.heap.size + 1 := by simp
              rw [hri] at hR0 ⊢
              clear hrg4 hb4 hs4 hri HGo HF0 HGa
              generalize wr.heap.size = r3 at *
              go_loopw [] (fun wr => ∃ (S : List Int) (φ' : Phi), Hid (φz.le φ') ∧ Hid (RnS 63 w φ φ' aw cw rs r1 (r3 + 1) hd1 S wr) ∧ Hid (FcM (i * N * N ^ i * N ^ i) (N ^ i * (i * N * N ^ i)) w.heap.size φ' r3 (facQ l an i) S wr)) (fun wr => wr.rangeLeft r1 (r3 + 1))
              case atStart => exact ⟨[], φz, Lib.hid φz.le_refl, hR0, hF4⟩
              case round =>
                clear hR0 hF4
                rename World => wr
                obtain ⟨S, φ', hlz, hRn, hFc⟩ := hrel
                go_wp2_with (at_next; refine wpList_next_H rfl _ rfl rfl hRn.out.rg ?_ ?_)
                · intro hdone
                  have hin : Hid (∀ k, k < i → clsI l k ∈ S) := Lib.hid (fun k hk => by
                    obtain ⟨hh, h2⟩ := Option.ne_none_iff_exists'.1 (hks.out k hk)
                    exact hdone _ _ h2)
                  have HGo := Lib.hid hRn.out.own
                  clear hdone hRn
                  have HW0 : Hid (∀ m, m < i → (if m < 0 then FfX φ' (rs.getD m raw0).v (rspX l an m) (N * (i * N * N ^ i * N ^ i)) (N * (N ^ i * (i * N * N ^ i))) else FfX φ' (rs.getD m raw0).v (wgtQ l m) N N)) := Lib.hid (fun m hm => by
                    rw [if_neg (Nat.not_lt_zero m)]
                    have h := HR.out.get m (by rw [hrn.out]; exact hm)
                    rw [hxw.out m hm] at h
                    exact h.mono (LZ.out.trans hlz.out))
                  have hX1 : i ≠ 0 → 1 ≤ N * (N ^ i * (i * N * N ^ i)) := fun h => Nat.mul_pos hN1 (Nat.mul_pos (Nat.pow_pos hN1) (Nat.mul_pos (Nat.mul_pos (Nat.pos_of_ne_zero h) hN1) (Nat.pow_pos hN1)))
                  go_wp2
                  go_loopw [100] (fun iv wr => ∃ (j : Nat) (φ4 : Phi) (rt : List Raw3), j ≤ i ∧ iv = .int .i64 (j : Int) ∧ Hid (φ'.le φ4) ∧ Hid (OwG w φ φ4 63 aw cw rt wr) ∧ Hid (FcM (i * N * N ^ i * N ^ i) (N ^ i * (i * N * N ^ i)) w.heap.size φ4 r3 (facQ l an i) S wr) ∧ Hid (rt.length = i) ∧ Hid (∀ m, m < i → (if m < j then FfX φ4 (rt.getD m raw0).v (rspX l an m) (N * (i * N * N ^ i * N ^ i)) (N * (N ^ i * (i * N * N ^ i))) else FfX φ4 (rt.getD m raw0).v (wgtQ l m) N N))) (fun iv _ => i - (intOf iv).toNat)
                  case atStart => exact ⟨0, φ', rs, Nat.zero_le _, rfl, Lib.hid φ'.le_refl, HGo, hFc, hrn, HW0⟩
                  case round =>
                    clear HGo hFc HW0
                    rename World => wr
                    obtain ⟨j, φ4, rt, hj, rfl, hl4, hG4, hF4, hrt, hW⟩ := hrel
                    by_cases hlt : j < i
                    · have hlti : (j : Int) < (i : Int) := by omega
                      obtain ⟨b, off, rfl, fp⟩ := HSL.out.psnsD hn hlt
                      obtain ⟨ba, oa, rfl, fa⟩ := HSA.out.boolsV hna hlt
                      obtain ⟨ar0, cr0, _, f2⟩ := fp j hlt
                      obtain ⟨d0, d1, d2, d3, d4, d5⟩ := f2 wr (hG4.out.inv.fz.sub hG4.out.inv.le)
                      have hck : Hid (clsI l j = (l.getD j psn0).2.2.1) := Lib.hid rfl
                      generalize l.getD j psn0 = p at *
                      obtain ⟨⟨s0, t0⟩, cl, x0, y0, z0⟩ := p
                      dsimp only at d0 d1 d2 d3 d4 d5 hck
                      obtain ⟨m0, hm9⟩ : ∃ m, cl.length = m := ⟨_, rfl⟩
                      rw [hm9] at d2
                      obtain ⟨φp, lp, ip, ep⟩ := (Inv.start hG4.out.inv.fz).frz (.cells #[.string s0, .string t0, .slice ar0 m0 cr0, .int .i64 x0, .int .i64 y0, .int .i64 z0] 43)
                      have G1 := Lib.hid (hG4.out.call ip)
                      have F1 := Lib.hid (hF4.out.call ip)
                      have LP := Lib.hid (hl4.out.trans lp)
                      have EP := Lib.hid ep
                      have hcS : Hid (x0 ∈ S) := Lib.hid (by rw [← hck.out]; exact hin.out j hlt)
                      have hWp : Hid (∀ m, m < i → (if m < j then FfX φp (rt.getD m raw0).v (rspX l an m) (N * (i * N * N ^ i * N ^ i)) (N * (N ^ i * (i * N * N ^ i))) else FfX φp (rt.getD m raw0).v (wgtQ l m) N N)) := Lib.hid (fun m hm => by
                        have h := hW.out m hm
                        by_cases h3 : m < j
                        · rw [if_pos h3] at h ⊢; exact h.mono lp
                        · rw [if_neg h3] at h ⊢; exact h.mono lp)
                      clear fp f2 hm9 hG4 hF4 lp ip ep hl4 hW
                      go_upto_region 28 with fail
                      generalize wr.alloc (.cells #[.string s0, .string t0, .slice ar0 m0 cr0, .int .i64 x0, .int .i64 y0, .int .i64 z0] 43) = wz at *
                      generalize wr.heap.size = bp at *
                      clear d0 d1 d2 d3 d4 d5
                      have FA := Lib.hid fa
                      obtain ⟨aj, haj⟩ : ∃ b, Hid (an.getD j false = b) := ⟨_, Lib.hid rfl⟩
                      have q9 : wz.cell? ⟨ba, oa + j, none⟩ = some (.bool aj) := by rw [← haj.out]; exact FA.out j hlt wz (G1.out.inv.fz.sub G1.out.inv.le)
                      have hstep : Hid (∀ (ψ : Phi) (y : Raw3), φp.le ψ → FfX ψ y.v (rspX l an j) (N * (i * N * N ^ i * N ^ i)) (N * (N ^ i * (i * N * N ^ i))) → ∀ m, m < i → (if m < j + 1 then FfX ψ ((rt.set j y).getD m raw0).v (rspX l an m) (N * (i * N * N ^ i * N ^ i)) (N * (N ^ i * (i * N * N ^ i))) else FfX ψ ((rt.set j y).getD m raw0).v (wgtQ l m) N N)) := Lib.hid (fun ψ y hl hy m hm => by
                        by_cases e : m = j
                        · subst e
                          rw [if_pos (by omega)]
                          have : (rt.set m y).getD m raw0 = y := by simp [List.getD_eq_getElem?_getD, List.getElem?_set_self (show m < rt.length by rw [hrt.out]; exact hm)]
                          rw [this]; exact hy
                        · have h1 : (rt.set j y).getD m raw0 = rt.getD m raw0 := by simp [List.getD_eq_getElem?_getD, List.getElem?_set_ne (Ne.symm e)]
                          have h2 := hWp.out m hm
                          rw [h1]
                          by_cases h3 : m < j
                          · rw [if_pos (by omega)]; rw [if_pos h3] at h2; exact h2.mono hl
                          · rw [if_neg (by omega)]; rw [if_neg h3] at h2; exact h2.mono hl)
                      have hrt2 : ∀ y : Raw3, Hid ((rt.set j y).length = i) := fun y => Lib.hid (by rw [List.length_set, hrt.out])
                      cases aj
                      · have hx0 : Hid (rspX l an j = 0) := Lib.hid (by unfold rspX; rw [haj.out]; rfl)
                        go_upto_region 30 with fail
                        clear q9
                        go_upto_region 31 with (go_at_call 30; (with_reducible refine (FracInt_any (n := 0) (by decide) (by decide) G1.out.inv.fz).mono ?_); rintro e w5 ⟨v5, φ5, rfl, hi5, hv5⟩; have hv6 := hv5.le (N' := N * (i * N * N ^ i * N ^ i)) (D' := N * (N ^ i * (i * N * N ^ i))) (Nat.zero_le _) (hX1 (by omega)); obtain ⟨gx, nx, mx, kx, ky, ax, cx, ay, cy, rfl, _⟩ := hv6.open; have G5 := Lib.hid (G1.out.call hi5); have F5 := Lib.hid (F1.out.call hi5); have L5 := Lib.hid hi5.le; have V5 := Lib.hid hv6; obtain ⟨gw, haw, hg1, hg2, hg3, c0, c1, c2, cf, hset⟩ := G5.out.own.rawD hrt hlt; cases haw; obtain ⟨r0, r1', r2⟩ := (⟨cf _, cf _, cf _⟩ : w5.frozen? ⟨gw, j * 3, none⟩ = false ∧ w5.frozen? ⟨gw, j * 3 + 1, none⟩ = false ∧ w5.frozen? ⟨gw, j * 3 + 2, none⟩ = false); have hst := Lib.hid (hset ⟨gx, ax, kx, cx, ay, ky, cy⟩ w φ G5.out.inv); have HG1 := Lib.hid hg2; have HG3 := Lib.hid (hawn.out _ rfl); clear hi5 hv5 hv6 hset)
                        have hk3 : Hid ((((w5.setCell ⟨gw, j * 3, none⟩ (.bool gx)).setCell ⟨gw, j * 3 + 1, none⟩ (.slice ax kx cx)).setCell ⟨gw, j * 3 + 2, none⟩ (.slice ay ky cy)).heap[r3]? = w5.heap[r3]?) := Lib.hid (((Below.heap_setCell _ _ _ _ (Ne.symm HG3.out)).trans (Below.heap_setCell _ _ _ _ (Ne.symm HG3.out))).trans (Below.heap_setCell _ _ _ _ (Ne.symm HG3.out)))
                        clear c0 c1 c2 cf r0 r1' r2
                        go_wp2
                        go_roundw
                        case rel => exact ⟨j + 1, φ5, rt.set j ⟨gx, ax, kx, cx, ay, ky, cy⟩, by omega, by go_num, Lib.hid (LP.out.trans L5.out), Lib.hid ⟨hst.out.2, hst.out.1⟩, Lib.hid (F5.out.kept hk3.out), hrt2 _, Lib.hid (hstep.out φ5 ⟨gx, ax, kx, cx, ay, ky, cy⟩ L5.out (by rw [hx0.out]; exact V5.out))⟩
                        case measure => (simp [intOf] <;> omega)
                      · have hx1 : Hid (wgtQ l j * facQ l an i x0 = rspX l an j) := Lib.hid (by
                          unfold rspX facQ
                          rw [haj.out, if_pos rfl, ← hck.out, clsQ_sum, somQ_sum, mul_over]
                          unfold allQ ownQ
                          rw [hn.out])
                        go_upto_region 29 with fail
                        clear q9
                        have G2 : Hid (OwG w φ φp 63 aw cw rt wz.drew) := Lib.hid (G1.out.callB (bdrewN (Below.refl _ wz) 1))
                        have F2 : Hid (FcM (i * N * N ^ i * N ^ i) (N ^ i * (i * N * N ^ i)) w.heap.size φp r3 (facQ l an i) S wz.drew) := Lib.hid (F1.out.callB (bdrewN (Below.refl _ wz) 1))
                        obtain ⟨vq, hlk, hvq⟩ := F2.out.look Tryz.underlying82 Tryz.underlying3 zeroFr hcS.out
                        obtain ⟨gq, nq, mq, kq, kq', aq, cq, aq', cq', rfl, _⟩ := hvq.open
                        have HVQ := Lib.hid hvq
                        have hx := hWp.out j hlt
                        rw [if_neg (Nat.lt_irrefl j)] at hx
                        obtain ⟨gw, haw, _, _, _, c0, c1, c2, _, _⟩ := G2.out.own.rawD hrt hlt
                        cases haw
                        have hrw := Lib.hid (fun (ψ : Phi) W (h : Own w.heap.size ψ W 63 (some ⟨gw, 0, none⟩) cw rt) => h.rawD hrt hlt)
                        generalize rt.getD j raw0 = ry at *
                        obtain ⟨gz, az, kz, cz, az', kz', cz'⟩ := ry
                        dsimp only at c0 c1 c2 hrw
                        have HX : Hid (FfX φp (.agg #[.bool gz, .slice az kz cz, .slice az' kz' cz']) (wgtQ l j) N N) := Lib.hid hx
                        have c3 : wz.drew.cell? ⟨bp, 3, none⟩ = some (.int .i64 x0) := box_cell EP.out φp.le_refl G2.out.inv.fz 3
                        have c0' : wz.cell? ⟨gw, j * 3, none⟩ = some (.bool gz) := c0
                        have c1' : wz.cell? ⟨gw, j * 3 + 1, none⟩ = some (.slice az kz cz) := c1
                        have c2' : wz.cell? ⟨gw, j * 3 + 2, none⟩ = some (.slice az' kz' cz') := c2
                        have c3' : wz.cell? ⟨bp, 3, none⟩ = some (.int .i64 x0) := c3
                        clear hx hvq
                        go_region_with (first
                          | ((with_reducible refine (Times_any hD hM G2.out.inv.fz HX.out HVQ.out HB.out.c9 HB.out.c10 HB.out.c5 HB.out.c8).mono ?_); rintro e w5 ⟨v5, φ5, rfl, hi5, hv5⟩; rw [hx1.out] at hv5; obtain ⟨gx, nx, mx, kx, ky, ax, cx, ay, cy, rfl, _⟩ := hv5.open; have G5 := Lib.hid (G2.out.call hi5); have F5 := Lib.hid (F2.out.call hi5); have L5 := Lib.hid hi5.le; have V5 := Lib.hid hv5; obtain ⟨gw', haw, hg1, hg2, hg3, p0, p1, p2, cf, hset⟩ := hrw.out φ5 w5 G5.out.own; cases haw; obtain ⟨f0, f1, f2⟩ := (⟨cf _, cf _, cf _⟩ : w5.frozen? ⟨gw, j * 3, none⟩ = false ∧ w5.frozen? ⟨gw, j * 3 + 1, none⟩ = false ∧ w5.frozen? ⟨gw, j * 3 + 2, none⟩ = false); have hst := Lib.hid (hset ⟨gx, ax, kx, cx, ay, ky, cy⟩ w φ G5.out.inv); have HG3 := Lib.hid (hawn.out _ rfl); clear hi5 hv5 hset hg1 hg2 hg3))
                        all_goals
                          have hk3 : Hid ((((w5.setCell ⟨gw, j * 3, none⟩ (.bool gx)).setCell ⟨gw, j * 3 + 1, none⟩ (.slice ax kx cx)).setCell ⟨gw, j * 3 + 2, none⟩ (.slice ay ky cy)).heap[r3]? = w5.heap[r3]?) := Lib.hid (((Below.heap_setCell _ _ _ _ (Ne.symm HG3.out)).trans (Below.heap_setCell _ _ _ _ (Ne.symm HG3.out))).trans (Below.heap_setCell _ _ _ _ (Ne.symm HG3.out)))
                          go_wp2
                          go_roundw
                          case rel => exact ⟨j + 1, φ5, rt.set j ⟨gx, ax, kx, cx, ay, ky, cy⟩, by omega, by go_num, Lib.hid (LP.out.trans L5.out), Lib.hid ⟨hst.out.2, hst.out.1⟩, Lib.hid (F5.out.kept hk3.out), hrt2 _, Lib.hid (hstep.out φ5 ⟨gx, ax, kx, cx, ay, ky, cy⟩ L5.out V5.out)⟩
                          case measure => (simp [intOf] <;> omega)
                    · obtain rfl : j = i := by omega
                      have hE := Lib.hid (hRo.out hon.out)
                      have hrl : Hid (((List.range j).map (rspX l an)).length = j) := Lib.hid (by simp)
                      have hraw := RawX.of (rs := rt) (xs := (List.range j).map (rspX l an)) (by rw [hrt.out, hrl.out]) (fun m hm => by
                        have hm2 : m < j := by rw [← hrt.out]; exact hm
                        have h := hW.out m hm2
                        rw [if_pos hm2] at h
                        have e : ((List.range j).map (rspX l an)).getD m 0 = rspX l an m := by simp [List.getD_eq_getElem?_getD, List.getElem?_map, hm2]
                        rw [e]; exact h)
                      obtain ⟨φ6, l6, i6, s6, _⟩ := (hG4.out.own.fx hraw).release hG4.out.inv
                      have HS6 := Lib.hid s6
                      have HI6 := Lib.hid i6
                      have HP6 := Lib.hid (HP.out.mono i6.le)
                      have HBM := Lib.hid (And.intro HB.out.c9 HB.out.c10)
                      clear hG4 hF4 hW hraw l6 i6 s6
                      go_wp2_with (go_at_call 39; (with_reducible refine (Ratios_any hD hM HBM.out.1 HBM.out.2 HI6.out.fz HP6.out HS6.out hrl hn3 hE).mono ?_); rintro e w9 ⟨aR, cR, φR, rfl, hiR, hsR⟩; have HIR := Lib.hid (HI6.out.call hiR); have HSR := Lib.hid hsR; clear hiR hsR)
                      go_ret2
                      exact ⟨aR, cR, φR, rfl, HIR.out, HSR.out⟩
                · intro kk x w' hfc hSn hR' hg2 hsz hlt2 hen
                  have hR2 := Lib.hid (hRn.out.next hg2 hR')
                  have hF2 := Lib.hid (hFc.out.kept (hg2.block r3 hFc.out.lt (fun e => by have := Option.some.inj e; omega)))
                  have hlt3 := Lib.hid hlt2
                  have hy := Lib.hid (hso.out kk x hfc)
                  have hpd := hR2.out
                  obtain ⟨aA, cA, hlkA, hslA⟩ := HM1.out.look Tryz.underlying81 Tryz.underlying3 zeroSlF kk
                  obtain ⟨aB, cB, hlkB, hslB⟩ := HM2g.out.look Tryz.underlying81 Tryz.underlying3 zeroSlF kk
                  have hmA := clsQ_len (l := l) (i := i) kk
                  have hmB := somQ_len (l := l) (an := an) (i := i) kk
                  rw [List.length_map] at hlkA hlkB
                  obtain ⟨mA, hmA2⟩ : ∃ m, Hid ((clsQ l i kk).length = m) := ⟨_, Lib.hid rfl⟩
                  obtain ⟨mB, hmB2⟩ : ∃ m, Hid ((somQ l an i kk).length = m) := ⟨_, Lib.hid rfl⟩
                  rw [hmA2.out] at hlkA hmA
                  rw [hmB2.out] at hlkB hmB
                  obtain ⟨SA, hSA⟩ : ∃ s, Hid (sumQ (clsQ l i kk) = s) := ⟨_, Lib.hid rfl⟩
                  obtain ⟨SB, hSB⟩ : ∃ s, Hid (sumQ (somQ l an i kk) = s) := ⟨_, Lib.hid rfl⟩
                  rw [hSB.out] at hy
                  have hq : Hid (facQ l an i kk = SA / SB) := Lib.hid (by unfold facQ; rw [hSA.out, hSB.out])
                  have HLA := Lib.hid hlkA
                  have HLB := Lib.hid hlkB
                  have HSA2 := Lib.hid hslA
                  have HSB2 := Lib.hid hslB
                  have bA1 : mA * N * N ^ mA ≤ i * N * N ^ i := sumB_mono hN1 hmA
                  have bA2 : N ^ mA ≤ N ^ i := powB_mono hN1 hmA
                  have bB1 : mB * N * N ^ mB ≤ i * N * N ^ i := sumB_mono hN1 hmB
                  have bB2 : N ^ mB ≤ N ^ i := powB_mono hN1 hmB
                  have BB := Lib.hid (And.intro (And.intro bA1 bA2) (And.intro bB1 bB2))
                  clear hfc hR' hg2 hsz hlt2 hSn hpd hlkA hlkB hslA hslB hmA hmB bA1 bA2 bB1 bB2 hRn hFc
                  go_upto_region 24 with fail
                  have R4 : Hid (RnS 63 w φ φ' aw cw rs r1 (r3 + 1) hd1 (kk :: S) w'.drew) := Lib.hid (hR2.out.callB (bdrewN (Below.refl _ w') 1))
                  have F4 : Hid (FcM (i * N * N ^ i * N ^ i) (N ^ i * (i * N * N ^ i)) w.heap.size φ' r3 (facQ l an i) S w'.drew) := Lib.hid (hF2.out.callB (bdrewN (Below.refl _ w') 1))
                  have hA0 := HLA.out w'.drew (R4.out.own.inv.fz.sub hlz.out)
                  have hB0 := HLB.out w'.drew (R4.out.own.inv.fz.sub hlz.out)
                  go_region_with (first
                    | ((with_reducible refine (Over_any hD hM R6.out.own.inv.fz VA6.out VB6.out hy.out HB.out.c8 HB.out.c11 HB.out.c2).mono ?_); rintro e w7 ⟨v7, φ7, rfl, hi7, hv7⟩; have R7 := Lib.hid (R6.out.call hi7); have F7 := Lib.hid (F6.out.call hi7); have L7 := Lib.hid (L6.out.trans hi7.le); have hrl7 := (rangeLeft_kept (hi7.bel.block r1 R6.out.rg.lt.1) (hi7.bel.block (r3 + 1) R6.out.rg.lt.2.1)).trans HRL6.out; have HRL7 := Lib.hid hrl7; obtain ⟨o7, hup7, hF8⟩ := F7.out.put Tryz.underlying82 Tryz.underlying3 (k := kk) (v := v7) (by rw [hq.out]; exact hv7); have F8 := Lib.hid hF8; clear hi7 hv7 hF8 hrl7)
                    | ((with_reducible refine (SumOf_any hD hM hN1 (Nat.le_trans BB.out.2.1 HB.out.c1) (Nat.le_trans BB.out.2.2 HB.out.c2) R5.out.own.inv.fz (HSB2.out.mono L5.out) hmB2 hSB).mono ?_); rintro e w6 ⟨v6, φ6, rfl, hi6, hv6⟩; have R6 := Lib.hid (R5.out.call hi6); have F6 := Lib.hid (F5.out.call hi6); have L6 := Lib.hid (L5.out.trans hi6.le); have VB6 := Lib.hid (hv6.le BB.out.2.1 BB.out.2.2); have VA6 := Lib.hid (VA5.out.mono hi6.le); have HRL6 := Lib.hid ((rangeLeft_kept (hi6.bel.block r1 R5.out.rg.lt.1) (hi6.bel.block (r3 + 1) R5.out.rg.lt.2.1)).trans HRL5.out); clear hi6 hv6)
                    | ((with_reducible refine (SumOf_any hD hM hN1 (Nat.le_trans BB.out.1.1 HB.out.c1) (Nat.le_trans BB.out.1.2 HB.out.c2) R4.out.own.inv.fz (HSA2.out.mono hlz.out) hmA2 hSA).mono ?_); rintro e w5 ⟨v5, φ5, rfl, hi5, hv5⟩; have R5 := Lib.hid (R4.out.call hi5); have F5 := Lib.hid (F4.out.call hi5); have L5 := Lib.hid (hlz.out.trans hi5.le); have VA5 := Lib.hid (hv5.le BB.out.1.1 BB.out.1.2); have hB1 := HLB.out w5 (R5.out.own.inv.fz.sub L5.out); have HRL5 := Lib.hid (rangeLeft_kept (hi5.bel.block r1 R4.out.rg.lt.1) (hi5.bel.block (r3 + 1) R4.out.rg.lt.2.1)); clear hi5 hv5))
                  all_goals
                    have R8 := Lib.hid (R7.out.oth (setMap_grown w7 r3 o7) F7.out.lo F7.out.fr hr1n.out (by omega) hawn.out)
                    have hrl8 : Hid ((setMap w7 r3 o7).rangeLeft r1 (r3 + 1) = w'.drew.rangeLeft r1 (r3 + 1)) := Lib.hid ((rangeLeft_kept ((setMap_grown w7 r3 o7).block r1 R7.out.rg.lt.1 (fun e => hr1n.out (Option.some.inj e))) ((setMap_grown w7 r3 o7).block (r3 + 1) R7.out.rg.lt.2.1 (fun e => by have := Option.some.inj e; omega))).trans HRL7.out)
                    clear hA0 hB0
                    go_wp2
                    go_roundw
                    case rel => exact ⟨kk :: S, φ7, L7, R8, F8⟩
                    case measure => rw [hrl8.out]; exact hlt3.out
            · intro kk x w' hfc hSn hR' hg2 hsz hlt2 hen
              have hR2 := Lib.hid (hRn.out.next hg2 hR')
              have hlt3 := Lib.hid hlt2
              have hS3 := Lib.hid hSn
              have hcl := Lib.hid (clsQ_ex (hpos.out kk x hfc))
              obtain ⟨a2, c2, hlk, hsl⟩ := HM2g.out.look Tryz.underlying81 Tryz.underlying3 zeroSlF kk
              have hlk2 := hlk w' hR2.out.own.inv.fz
              rw [List.length_map] at hlk2
              clear hfc hR' hg2 hsz hlt2 hSn hlk hsl
              by_cases hz : somQ l an i kk = []
              · have hz0 : (somQ l an i kk).length = 0 := by rw [hz]; rfl
                rw [hz0] at hlk2
                obtain ⟨k9, hk9, hk8⟩ := hcl.out
                subst hk8
                have hE := Lib.hid (hRz.out k9 hk9 (somQ_nil hn.out hz))
                clear hz hz0 hcl
                go_wp2
                go_ret2
                have := hE.out
                injection this with e1 e2
                subst e1 e2
                exact ⟨none, 0, φz, rfl, hR2.out.own.inv, SlV.empty φz⟩
              · have hSk2 : Hid (∀ k ∈ kk :: S, somQ l an i k ≠ []) := Lib.hid (fun k hk => by
                  rcases List.mem_cons.1 hk with rfl | hk
                  · exact hz
                  · exact hSk.out k hk)
                obtain ⟨ll, hll⟩ : ∃ m, (somQ l an i kk).length = m := ⟨_, rfl⟩
                have hl0 : ll ≠ 0 := fun e => hz (List.eq_nil_of_length_eq_zero (by rw [hll]; exact e))
                rw [hll] at hlk2
                have hli : ((ll : Int) == 0) = false := by simp [hl0]
                clear hz hll hl0 hcl hSk
                go_wp2
                go_roundw
                case rel => exact ⟨kk :: S, hR2, hSk2⟩
                case measure => exact hlt3.out
end Go.Proofs.YtdlnhmcgnpjooaaGreatDoor
