/- A region that draws its order of evaluation, where each operation keeps a state that only grows: one step an operation, no order looked at. The walk of joint, the reference's side. Conditions: the take fits the stratum's units; the two units are not the same. Conditions: none beyond what the claim form gives. -/
import Derived.Test.YtnlhalnjbkpdnaaGreatDoorLB
import Derived.Test.YtnlhalnjbkpdnaaGreatDoorZK
namespace Go.Proofs.YtnlhalnjbkpdnaaGreatDoor
open Go.RowKit
set_option linter.unusedVariables false
set_option linter.unusedSimpArgs false
/-- a frame with some temporaries set -/
def updF (a : Act) (l : List (Nat × Value)) : Act := { a with tmps := l.foldl (fun t p => t.setIfInBounds p.1 p.2) a.tmps }
theorem fold_size (l : List (Nat × Value)) : ∀ t : Array Value, (l.foldl (fun t p => t.setIfInBounds p.1 p.2) t).size = t.size := by
  induction l with
  | nil => intro t; rfl
  | cons p l ih => intro t; rw [List.foldl_cons, ih]; simp
theorem fold_off {l : List (Nat × Value)} {d : Nat} (h : ∀ p ∈ l, p.1 ≠ d) : ∀ t : Array Value, (l.foldl (fun t p => t.setIfInBounds p.1 p.2) t)[d]? = t[d]? := by
  induction l with
  | nil => intro t; rfl
  | cons p l ih =>
    intro t
    rw [List.foldl_cons, ih (fun q hq => h q (by simp [hq]))]
    exact Array.getElem?_setIfInBounds_ne (h p (by simp))
theorem fold_at {l : List (Nat × Value)} (hn : (l.map (·.1)).Nodup) {d : Nat} {v : Value} (h : (d, v) ∈ l) : ∀ t : Array Value, d < t.size → (l.foldl (fun t p => t.setIfInBounds p.1 p.2) t)[d]? = some v := by
  induction l with
  | nil => simp at h
  | cons p l ih =>
    intro t ht
    rw [List.map_cons, List.nodup_cons] at hn
    rw [List.foldl_cons]
    rcases List.mem_cons.1 h with rfl | h
    · rw [fold_off (fun q hq e => hn.1 (by rw [List.mem_map]; exact ⟨q, hq, e⟩))]
      simp [ht]
    · exact ih hn.2 h _ (by simpa using ht)
def dstAt (ops : Array Oper) (i : Nat) : Option Nat := (ops[i]?).bind (·.dst)
def dstL (ops : Array Oper) : List (Nat × Nat) := (List.range ops.size).filterMap (fun i => (dstAt ops i).map (fun d => (d, i)))
theorem mem_dstL {ops : Array Oper} {d i : Nat} : (d, i) ∈ dstL ops ↔ dstAt ops i = some d := by
  unfold dstL
  rw [List.mem_filterMap]
  constructor
  · rintro ⟨j, hj, h⟩
    cases hd : dstAt ops j with
    | none => rw [hd] at h; cases h
    | some e =>
      rw [hd] at h
      simp at h
      obtain ⟨rfl, rfl⟩ := h
      exact hd
  · intro h
    refine ⟨i, ?_, by rw [h]; rfl⟩
    rw [List.mem_range]
    apply Classical.byContradiction
    intro hn
    have : ops[i]? = none := Array.getElem?_eq_none (by omega)
    unfold dstAt at h
    rw [this] at h
    cases h
theorem nodup_inj {l : List (Nat × Nat)} (hn : (l.map (·.1)).Nodup) {d i j : Nat} (h1 : (d, i) ∈ l) (h2 : (d, j) ∈ l) : i = j := by
  induction l with
  | nil => simp at h1
  | cons p l ih =>
    rw [List.map_cons, List.nodup_cons] at hn
    rcases List.mem_cons.1 h1 with e1 | h1
    · rcases List.mem_cons.1 h2 with e2 | h2
      · rw [← e1] at e2; cases e2; rfl
      · exact absurd (List.mem_map.2 ⟨_, h2, by rw [← e1]⟩) hn.1
    · rcases List.mem_cons.1 h2 with e2 | h2
      · exact absurd (List.mem_map.2 ⟨_, h1, by rw [← e2]⟩) hn.1
      · exact ih hn.2 h1 h2
/-- What the text of a region must meet. -/
def okD (ops : Array Oper) (md : Region.Mode) (o : Oper) (deps : List (Nat × Nat)) : Bool :=
  deps.all (fun p => o.after.any (fun e => Region.binds md e && e.on == p.2) && (dstAt ops p.2 == some p.1)) &&
  (o.looksAt ops).all (fun d => (deps.map (·.1)).contains d || (dstL ops).all (fun q => q.1 != d)) && decide ((deps.map (·.1)).Nodup)
def okR (ops : Array Oper) (md : Region.Mode) : Bool :=
  decide (((dstL ops).map (·.1)).Nodup) && Region.noSelect ops && (List.range ops.size).all (fun i => ((ops[i]?).map (fun o => o.after.all (fun e => !Region.binds md e || decide (e.on < i)))).getD true)
section
variable {P : Program} {ops : Array Oper} {md : Region.Mode} {σ : Type} {le : σ → σ → Prop} {R : σ → World → Prop} {V : Nat → σ → Value → Prop} {B : Nat → σ → Prop} {K0 : Act → World → Prop} {a0 : Act} {ψ0 : σ}
/-- One operation's step. -/
def StepF (P : Program) (ops : Array Oper) (md : Region.Mode) (le : σ → σ → Prop) (R : σ → World → Prop) (V : Nat → σ → Value → Prop) (B : Nat → σ → Prop) (K0 : Act → World → Prop) (a0 : Act) (ψ0 : σ) (i : Nat) (o : Oper) : Prop :=
  ∃ deps : List (Nat × Nat), okD ops md o deps = true ∧ ∀ (ψ : σ) (w : World) (vals : Nat → Value), le ψ0 ψ → R ψ w → B i ψ → (∀ p ∈ deps, V p.2 ψ (vals p.2)) →
    ∀ K' : Act → World → Prop, Hid (∀ a' v w' ψ', le ψ ψ' → R ψ' w' → (∀ j, j ≠ i → B j ψ → B j ψ') → V i ψ' v → a' = (updF a0 (deps.map fun p => (p.1, vals p.2))).put o.dst v → K' a' w') →
    if Region.wanted o (yielded ops (updF a0 (deps.map fun p => (p.1, vals p.2))).tmps) = true then Oper.wp P o (updF a0 (deps.map fun p => (p.1, vals p.2))) w K' (OnlyN K0) else K' ((updF a0 (deps.map fun p => (p.1, vals p.2))).put o.dst undef) w
theorem put_same {a b : Act} (hsz : a.tmps.size = b.tmps.size) {x : Option Tmp} {u v : Value} (h : b.put x u = b.put x v) : a.put x u = a.put x v := by
  cases x with
  | none => rfl
  | some d =>
    by_cases hd : d < b.tmps.size
    · have e := congrArg (fun c : Act => c.tmps[d]?) h
      simp [Act.put, hd] at e
      rw [e]
    · have : ∀ z : Value, a.tmps.setIfInBounds d z = a.tmps := fun z => by
        unfold Array.setIfInBounds
        rw [dif_neg (fun h => hd (hsz ▸ h))]
      simp [Act.put, this]
theorem put_def (a : Act) (x : Option Tmp) (v : Value) : (a.put x v).defers = a.defers := by cases x <;> rfl
/-- An operation looks at its own temporaries alone. -/
theorem step_at {i : Nat} {o : Oper} (hi : ops[i]? = some o) (hs : ∀ cs b, o.op ≠ .select cs b) {a b : Act} (hsz : a.tmps.size = b.tmps.size) (hag : ∀ d ∈ o.looksAt ops, a.tmps[d]? = b.tmps[d]?) {Kv : Value → World → Prop} {w : World}
    (h : if Region.wanted o (yielded ops b.tmps) = true then Oper.wp P o b w (fun a' w' => ∃ v, a' = b.put o.dst v ∧ Kv v w') (OnlyN K0) else ∃ v, b.put o.dst undef = b.put o.dst v ∧ Kv v w) :
    wpOp P ops (OnlyN K0) i (fun a' w' => ∃ v, a' = a.put o.dst v ∧ Kv v w') a w := by
  have he : execOp a.eval o = execOp b.eval o := execOp_congr o hs fun x hx => by
    cases x with
    | tmp t =>
      have := hag t (List.mem_append_left _ (List.mem_filterMap.2 ⟨.tmp t, by simpa using hx, rfl⟩))
      show a.tmps.getD t undef = b.tmps.getD t undef
      rw [Array.getD_eq_getD_getElem?, Array.getD_eq_getD_getElem?, this]
    | _ => rfl
  have hw : Region.wanted o (yielded ops a.tmps) = Region.wanted o (yielded ops b.tmps) := by
    unfold Region.wanted
    cases hg : o.guard with
    | none => rfl
    | some gw =>
      obtain ⟨g, want⟩ := gw
      have hy : yielded ops a.tmps g = yielded ops b.tmps g := by
        unfold yielded
        cases ht : (ops[g]?).bind (·.dst) with
        | none => rfl
        | some t =>
          have := hag t (by simp [Oper.looksAt, hg, ht])
          simp [this]
      simp only [hy]
  unfold wpOp
  simp only [hi]
  rw [hw]
  split
  · next h1 =>
    rw [if_pos h1] at h
    refine .inl ?_
    unfold Oper.wp at h ⊢
    rw [he]
    generalize (execOp b.eval o).run P w = r at *
    cases r with
    | ok n w' =>
      cases n <;> simp only [Oper.upon] at h ⊢
      case value u => obtain ⟨v, e, hk⟩ := h; exact ⟨v, put_same hsz e, hk⟩
      case skip => obtain ⟨v, e, hk⟩ := h; exact ⟨v, put_same hsz e, hk⟩
      case defer d =>
        obtain ⟨v, e, hk⟩ := h
        have := congrArg (fun c : Act => c.defers.length) e
        simp [put_def] at this
      case enter f args =>
        refine Calls.mono h fun e w'' he => ?_
        cases e with
        | returned u => obtain ⟨v, e, hk⟩ := he; exact ⟨v, put_same hsz e, hk⟩
        | panicked c => exact he
        | outgrown => exact he
      case row row args => exact Rows.mono h fun u w'' he => by obtain ⟨v, e, hk⟩ := he; exact ⟨v, put_same hsz e, hk⟩
    | halt x w' =>
      cases x <;> simp only [Oper.upon] at h ⊢
      case panic u => exact h
  · next h1 =>
    rw [if_neg h1] at h
    obtain ⟨v, e, hk⟩ := h
    exact ⟨v, put_same hsz e, hk⟩
/-- The frame behind some of the region's operations. -/
structure FrmOk (ops : Array Oper) (a0 : Act) (listed : Array Bool) (vals : Nat → Value) (a : Act) : Prop where
  def_ : a.defers = a0.defers
  size : a.tmps.size = a0.tmps.size
  got : ∀ i d, listed.getD i false = true → dstAt ops i = some d → d < a0.tmps.size → a.tmps[d]? = some (vals i)
  old : ∀ t, (∀ i, listed.getD i false = true → dstAt ops i ≠ some t) → a.tmps[t]? = a0.tmps[t]?
theorem getD_setB {l : Array Bool} {i j : Nat} (hi : i < l.size) : (l.setIfInBounds i true).getD j false = if j = i then true else l.getD j false := by
  rw [Array.getD_eq_getD_getElem?, Array.getD_eq_getD_getElem?]
  by_cases e : j = i
  · subst e; simp [hi]
  · rw [if_neg e, Array.getElem?_setIfInBounds_ne (fun h => e h.symm)]
theorem FrmOk.put {listed : Array Bool} {vals : Nat → Value} {a : Act} (h : FrmOk ops a0 listed vals a) (hr : okR ops md = true) {i : Nat} {o : Oper} (hi : ops[i]? = some o) (hil : i < listed.size) (v : Value) : FrmOk ops a0 (listed.setIfInBounds i true) (fun j => if j = i then v else vals j) (a.put o.dst v) := by
  have hnd : ((dstL ops).map (·.1)).Nodup := by simp only [okR, Bool.and_eq_true, decide_eq_true_eq] at hr; exact hr.1.1
  have hdi : dstAt ops i = o.dst := by unfold dstAt; rw [hi]; rfl
  refine ⟨(put_def _ _ _).trans h.def_, ?_, fun j d hj hd hds => ?_, fun t ht => ?_⟩
  · cases o.dst <;> simp [Act.put, h.size]
  · rw [getD_setB hil] at hj
    by_cases e : j = i
    · subst e
      rw [hdi] at hd
      simp [hd, Act.put, h.size, hds]
    · simp only [if_neg e] at hj ⊢
      have h1 := h.got j d hj hd hds
      cases hx : o.dst with
      | none => exact h1
      | some x =>
        have hne : x ≠ d := fun q => by
          subst q
          exact e (nodup_inj hnd (mem_dstL.2 hd) (mem_dstL.2 (by rw [hdi, hx])))
        show (a.tmps.setIfInBounds x v)[d]? = some (vals j)
        rw [Array.getElem?_setIfInBounds_ne hne]
        exact h1
  · have hti : o.dst ≠ some t := by rw [← hdi]; exact ht i (by rw [getD_setB hil, if_pos rfl])
    have h1 := h.old t (fun j hj => ht j (by rw [getD_setB hil]; split; rfl; exact hj))
    cases hx : o.dst with
    | none => exact h1
    | some x =>
      have hne : x ≠ t := fun q => hti (by rw [hx, q])
      show (a.tmps.setIfInBounds x v)[t]? = _
      rw [Array.getElem?_setIfInBounds_ne hne]
      exact h1
/-- The frame behind all of them. -/
theorem FrmOk.all {listed : Array Bool} {vals : Nat → Value} {a : Act} (h : FrmOk ops a0 listed vals a) (hr : okR ops md = true) (hl : ∀ i, i < ops.size → listed.getD i false = true) : a = updF a0 ((dstL ops).map fun p => (p.1, vals p.2)) := by
  have hnd : ((dstL ops).map (·.1)).Nodup := by simp only [okR, Bool.and_eq_true, decide_eq_true_eq] at hr; exact hr.1.1
  have hsz : a.tmps.size = (updF a0 ((dstL ops).map fun p => (p.1, vals p.2))).tmps.size := by unfold updF; rw [fold_size, h.size]
  have ht : a.tmps = (updF a0 ((dstL ops).map fun p => (p.1, vals p.2))).tmps := by
    refine Array.ext_getElem? (fun t => ?_)
    by_cases hex : ∃ i, dstAt ops i = some t
    · obtain ⟨i, hi⟩ := hex
      by_cases hs : t < a0.tmps.size
      · have hin : i < ops.size := by
          apply Classical.byContradiction
          intro hn
          have : ops[i]? = none := Array.getElem?_eq_none (by omega)
          unfold dstAt at hi; rw [this] at hi; cases hi
        rw [h.got i t (hl i hin) hi hs]
        unfold updF
        refine (fold_at ?_ ?_ _ hs).symm
        · rw [List.map_map]; exact hnd
        · exact List.mem_map.2 ⟨_, mem_dstL.2 hi, rfl⟩
      · rw [Array.getElem?_eq_none (by rw [h.size]; omega), Array.getElem?_eq_none (by rw [← hsz, h.size]; omega)]
    · rw [h.old t (fun i _ hi => hex ⟨i, hi⟩)]
      unfold updF
      refine (fold_off (fun p hp e => ?_) _).symm
      obtain ⟨q, hq, rfl⟩ := List.mem_map.1 hp
      exact hex ⟨q.2, by rw [mem_dstL.1 (show (q.1, q.2) ∈ dstL ops from hq)]; exact congrArg some e⟩
  cases a
  have hd := h.def_
  dsimp only at ht hd
  subst ht
  subst hd
  rfl
theorem okR_edge (hr : okR ops md = true) {i : Nat} {o : Oper} (hi : ops[i]? = some o) : ∀ e ∈ o.after, Region.binds md e = true → e.on < i := by
  simp only [okR, Bool.and_eq_true, List.all_eq_true] at hr
  have h := hr.2 i (List.mem_range.2 (Array.getElem?_eq_some_iff.1 hi).1)
  rw [hi] at h
  simp only [Option.map_some, Option.getD_some, Array.all_eq_true'] at h
  intro e he hb
  have := h e he
  simpa [hb] using this
/-- Each operation that has not come up waits for those before it alone: one may come up. -/
theorem none_left (hr : okR ops md = true) {listed : Array Bool} (hls : listed.size = ops.size) (h0 : Region.ready md ops listed = []) : ∀ i, i < ops.size → listed.getD i false = true := by
  intro i
  induction i using Nat.strongRecOn with
  | ind i ih =>
    intro hi
    apply Classical.byContradiction
    intro hn
    obtain ⟨o, ho⟩ : ∃ o, ops[i]? = some o := ⟨_, Array.getElem?_eq_getElem hi⟩
    have hm : i ∈ Region.ready md ops listed := by
      unfold Region.ready
      rw [List.mem_filter]
      refine ⟨List.mem_range.2 hi, ?_⟩
      rw [ho]
      have h1 : listed.getD i true = false := by
        rw [Array.getD_eq_getD_getElem?] at hn ⊢
        rw [Array.getElem?_eq_getElem (by omega)] at hn ⊢
        simpa using hn
      simp only [h1, Bool.not_false, Bool.true_and, Option.map_some, Option.getD_some, Array.all_eq_true']
      intro e he
      by_cases hb : Region.binds md e = true
      · have hlt := okR_edge hr ho e he hb
        rw [ih e.on hlt (by omega)]
        simp
      · simp [hb]
    rw [h0] at hm
    cases hm
theorem free_go (lr : ∀ x, le x x) (lt : ∀ x y z, le x y → le y z → le x z) (vm : ∀ i x y v, le x y → V i x v → V i y v) (hr : okR ops md = true)
    (step : ∀ i o, ops[i]? = some o → StepF P ops md le R V B K0 a0 ψ0 i o)
    (fin : ∀ (ψ : σ) (w : World) (vals : Nat → Value), le ψ0 ψ → R ψ w → (∀ i, i < ops.size → V i ψ (vals i)) → K0 (updF a0 ((dstL ops).map fun p => (p.1, vals p.2))) w) :
    ∀ (fuel : Nat) (U : List Nat) (listed : Array Bool) (a : Act) (w : World) (ψ : σ) (vals : Nat → Value), U.length ≤ fuel → U.Nodup → (∀ i, i ∈ U ↔ i < ops.size ∧ listed.getD i false = false) → listed.size = ops.size →
      le ψ0 ψ → R ψ w → FrmOk ops a0 listed vals a → (∀ i, listed.getD i false = true → V i ψ (vals i)) → (∀ i, listed.getD i false = false → B i ψ) → wpAny P md ops (OnlyN K0) fuel listed a w := by
  have hfin : ∀ (listed : Array Bool) (a : Act) (w : World) (ψ : σ) (vals : Nat → Value), le ψ0 ψ → R ψ w → FrmOk ops a0 listed vals a → (∀ i, listed.getD i false = true → V i ψ (vals i)) → (∀ i, i < ops.size → listed.getD i false = true) → OnlyN K0 .normal a w := by
    intro listed a w ψ vals h1 h2 h3 h4 h5
    have e := h3.all hr h5
    rw [e]
    exact fin ψ w vals h1 h2 (fun i hi => h4 i (h5 i hi))
  intro fuel
  induction fuel with
  | zero =>
    intro U listed a w ψ vals hU hn hm hls h1 h2 h3 h4 h6
    have hU0 : U = [] := List.eq_nil_of_length_eq_zero (by omega)
    subst hU0
    have hall : ∀ i, i < ops.size → listed.getD i false = true := fun i hi => by
      cases hc : listed.getD i false with
      | true => rfl
      | false => have := (hm i).2 ⟨hi, hc⟩; cases this
    refine ⟨?_, hfin listed a w ψ vals h1 h2 h3 h4 hall⟩
    rw [List.eq_nil_iff_forall_not_mem]
    intro i hi
    obtain ⟨q1, o, ho, _⟩ := mem_ready.1 hi
    have hi2 := (Array.getElem?_eq_some_iff.1 ho).1
    have q2 := hall i hi2
    rw [Array.getD_eq_getD_getElem?] at q1 q2
    rw [Array.getElem?_eq_getElem (by omega)] at q1 q2
    simp at q1 q2
    rw [q2] at q1
    cases q1
  | succ fuel ih =>
    intro U listed a w ψ vals hU hn hm hls h1 h2 h3 h4 h6
    refine ⟨fun h0 => hfin listed a w ψ vals h1 h2 h3 h4 (none_left hr hls h0), fun i hi => ?_⟩
    obtain ⟨q1, o, ho, hdep⟩ := mem_ready.1 hi
    have hi2 := (Array.getElem?_eq_some_iff.1 ho).1
    have q1f : listed.getD i false = false := by
      rw [Array.getD_eq_getD_getElem?] at q1 ⊢
      rw [Array.getElem?_eq_getElem (by omega)] at q1 ⊢
      simpa using q1
    obtain ⟨deps, hok, hst⟩ := step i o ho
    simp only [okD, Bool.and_eq_true, List.all_eq_true, decide_eq_true_eq] at hok
    have hdl : ∀ p ∈ deps, listed.getD p.2 false = true ∧ dstAt ops p.2 = some p.1 := fun p hp => by
      obtain ⟨k1, k2⟩ := hok.1.1 p hp
      rw [Array.any_eq_true'] at k1
      obtain ⟨e, he, hb⟩ := k1
      simp only [Bool.and_eq_true, beq_iff_eq] at hb
      refine ⟨?_, by simpa using k2⟩
      have := hdep e he hb.1
      rw [← hb.2]
      exact this
    have hsel : ∀ cs b, o.op ≠ .select cs b := fun cs b => by
      have := Region.noSelect_spec (ops := ops) (by simp only [okR, Bool.and_eq_true] at hr; exact hr.1.2) i o cs b ho
      exact this
    obtain ⟨b, hb⟩ : ∃ b, updF a0 (deps.map fun p => (p.1, vals p.2)) = b := ⟨_, rfl⟩
    have hbs : a.tmps.size = b.tmps.size := by rw [← hb]; unfold updF; rw [fold_size, h3.size]
    have hag : ∀ d ∈ o.looksAt ops, a.tmps[d]? = b.tmps[d]? := fun d hd => by
      by_cases hs : d < a0.tmps.size
      · have hk := hok.1.2 d hd
        rw [Bool.or_eq_true] at hk
        by_cases hc : d ∈ deps.map (·.1)
        · obtain ⟨p, hp, rfl⟩ := List.mem_map.1 hc
          obtain ⟨k1, k2⟩ := hdl p hp
          rw [h3.got p.2 p.1 k1 k2 hs, ← hb]
          unfold updF
          refine (fold_at ?_ (List.mem_map.2 ⟨p, hp, rfl⟩) _ hs).symm
          rw [List.map_map]
          exact hok.2
        · have hk2 : ∀ q ∈ dstL ops, q.1 ≠ d := by
            rcases hk with hk | hk
            · exact absurd (by simpa using hk) hc
            · intro q hq
              have := List.all_eq_true.1 hk q hq
              simpa using this
          rw [h3.old d (fun j _ hj => hk2 (d, j) (mem_dstL.2 hj) rfl), ← hb]
          unfold updF
          refine (fold_off (fun q hq e => ?_) _).symm
          obtain ⟨p, hp, rfl⟩ := List.mem_map.1 hq
          exact hc (List.mem_map.2 ⟨p, hp, e⟩)
      · rw [Array.getElem?_eq_none (by rw [h3.size]; exact Nat.le_of_not_lt hs), Array.getElem?_eq_none (by rw [← hbs, h3.size]; exact Nat.le_of_not_lt hs)]
    have hsp := step_at (K0 := K0) (P := P) (w := w) ho hsel hbs hag (Kv := fun v w' => ∃ ψ', le ψ ψ' ∧ R ψ' w' ∧ (∀ j, j ≠ i → B j ψ → B j ψ') ∧ V i ψ' v) (by
      have := hst ψ w vals h1 h2 (h6 i q1f) (fun p hp => h4 p.2 (hdl p hp).1) (fun a' w' => ∃ v, a' = b.put o.dst v ∧ ∃ ψ', le ψ ψ' ∧ R ψ' w' ∧ (∀ j, j ≠ i → B j ψ → B j ψ') ∧ V i ψ' v) (Lib.hid (fun a' v w' ψ' k1 k2 k5 k3 k4 => ⟨v, by rw [k4, hb], ψ', k1, k2, k5, k3⟩))
      rw [hb] at this
      exact this)
    refine wpOp_mono (fun a' w' hq => ?_) hsp
    obtain ⟨v, rfl, ψ', k1, k2, k5, k3⟩ := hq
    have hil : i < listed.size := by omega
    refine ih (U.erase i) _ _ _ ψ' (fun j => if j = i then v else vals j) ?_ (hn.erase i) (fun j => ?_) (by simpa using hls) (lt _ _ _ h1 k1) k2 (h3.put hr ho hil v) (fun j hj => ?_) (fun j hj => ?_)
    · rw [List.length_erase_of_mem ((hm i).2 ⟨hi2, q1f⟩)]; omega
    · rw [hn.mem_erase_iff, hm j, getD_setB hil]
      by_cases e : j = i
      · subst e; simp
      · simp [e]
    · rw [getD_setB hil] at hj
      by_cases e : j = i
      · subst e; simpa using k3
      · simp only [if_neg e] at hj ⊢
        exact vm _ _ _ _ k1 (h4 j hj)
    · rw [getD_setB hil] at hj
      by_cases e : j = i
      · subst e; simp at hj
      · rw [if_neg e] at hj
        exact k5 j e (h6 j hj)
/-- A region that draws: one step an operation. -/
theorem wp_free {id : Nat} {w : World} {K0 : Act → World → Prop} (hm : P.follows .mixedOrders = true) (lr : ∀ x, le x x) (lt : ∀ x y z, le x y → le y z → le x z) (vm : ∀ i x y v, le x y → V i x v → V i y v) (hr : okR ops .any = true) (h0 : R ψ0 w.drew) (hB : ∀ i, B i ψ0)
    (step : ∀ i o, ops[i]? = some o → StepF P ops .any le R V B K0 a0 ψ0 i o)
    (fin : ∀ (ψ : σ) (w : World) (vals : Nat → Value), le ψ0 ψ → R ψ w → (∀ i, i < ops.size → V i ψ (vals i)) → K0 (updF a0 ((dstL ops).map fun p => (p.1, vals p.2))) w) :
    (Code.region id ops true).wp P (OnlyN K0) a0 w := by
  refine wp_region_any hm ?_
  refine free_go lr lt vm hr step fin ops.size (List.range ops.size) (Array.replicate ops.size false) a0 _ ψ0 (fun _ => undef) (by simp) List.nodup_range (fun i => ?_) (by simp) (lr _) h0 ⟨rfl, rfl, fun i d h => ?_, fun t _ => rfl⟩ (fun i h => ?_) (fun i _ => hB i)
  · rw [List.mem_range, Array.getD_eq_getD_getElem?]
    constructor
    · intro h; exact ⟨h, by simp [h]⟩
    · exact fun h => h.1
  · exfalso
    rw [Array.getD_eq_getD_getElem?] at h
    by_cases e : i < ops.size <;> simp [e] at h
  · exfalso
    rw [Array.getD_eq_getD_getElem?] at h
    by_cases e : i < ops.size <;> simp [e] at h
end
/-- The steps of a list of operations, one by one. -/
def AllFrom (p : Nat → Oper → Prop) : Nat → List Oper → Prop
  | _, [] => True
  | k, o :: l => p k o ∧ AllFrom p (k + 1) l
theorem all_from {p : Nat → Oper → Prop} : ∀ {l : List Oper} {k : Nat}, AllFrom p k l → ∀ i o, l[i]? = some o → p (k + i) o
  | [], _, _, i, o, h => by simp at h
  | x :: l, k, h, 0, o, e => by
    simp at e
    subst e
    exact h.1
  | x :: l, k, h, i + 1, o, e => by
    have := all_from h.2 i o (by simpa using e)
    rw [show k + (i + 1) = k + 1 + i by omega]
    exact this
theorem all_of {p : Nat → Oper → Prop} {l : List Oper} (h : AllFrom p 0 l) : ∀ i o, l.toArray[i]? = some o → p i o := fun i o e => by
  have := all_from h i o (by simpa using e)
  rwa [Nat.zero_add] at this
end Go.Proofs.YtnlhalnjbkpdnaaGreatDoor

namespace Go.Proofs.YtnlhalnjbkpdnaaGreatDoor
open Go.RowKit Go.Sort
set_option linter.unusedVariables false
set_option linter.unusedSimpArgs false
/-- A result's cell, and two boxes that are only read. -/
def Bx3 (w0 : World) (φ0 φ1 : Phi) (br bx : Nat) (ox : Obj) (bt : Nat) (ot : Obj) (W : World) : Prop :=
  ∃ φ2, RsSt w0 φ0 φ2 br #[.bool false, .slice none 0 0, .slice none 0 0] 55 W ∧ φ1.le φ2 ∧ φ2 bx = some ox ∧ φ2 bt = some ot
theorem Bx3.one {w0 W : World} {φ0 φ1 : Phi} {br : Nat} (h : RsSt w0 φ0 φ1 br #[.bool false, .slice none 0 0, .slice none 0 0] 55 W) (ox ot : Obj) : Bx3 w0 φ0 φ1 br W.heap.size ox (W.heap.size + 1) ot (((W.alloc ox).alloc ot).drew) := by
  obtain ⟨φ2, l2, i2, k2⟩ := (Inv.start h.inv.fz).frz ox
  obtain ⟨φ3, l3, i3, k3⟩ := i2.frz ot
  rw [alloc_sz] at k3
  exact ⟨φ3, (h.call i3).drewN 1, l2.trans l3, l3 _ _ k2, k3⟩
theorem Bx3.two {w0 W : World} {φ0 φ1 : Phi} {br : Nat} (h : RsSt w0 φ0 φ1 br #[.bool false, .slice none 0 0, .slice none 0 0] 55 W) (ox ot : Obj) : Bx3 w0 φ0 φ1 br (W.heap.size + 1) ox W.heap.size ot (((W.alloc ot).alloc ox).drew) := by
  obtain ⟨φ2, h1, h2, h3, h4⟩ := Bx3.one h ot ox
  exact ⟨φ2, h1, h2, h4, h3⟩
/-- What is frozen, and what the result's cell holds. -/
abbrev Sg := Phi × Option (Value × Value × Value)
def sgC (x : Option (Value × Value × Value)) : Array Value := match x with
  | none => #[.bool false, .slice none 0 0, .slice none 0 0]
  | some y => #[y.1, y.2.1, y.2.2]
def sgLe (x y : Sg) : Prop := x.1.le y.1 ∧ (x.2 = none ∨ y.2 = x.2)
theorem sgLe_refl (x : Sg) : sgLe x x := ⟨x.1.le_refl, .inr rfl⟩
theorem sgLe_trans (x y z : Sg) (h : sgLe x y) (k : sgLe y z) : sgLe x z := ⟨h.1.trans k.1, by
  rcases h.2 with h | h
  · exact .inl h
  · rcases k.2 with k | k
    · exact .inl (by rw [← h, k])
    · exact .inr (k.trans h)⟩
def SgR (w0 : World) (φ0 : Phi) (br : Nat) (x : Sg) (W : World) : Prop := RsSt w0 φ0 x.1 br (sgC x.2) 55 W
theorem SgR.call {w0 W w' : World} {φ0 φ' : Phi} {br : Nat} {x : Sg} (h : SgR w0 φ0 br x W) (hi : Inv W.heap.size W x.1 φ' w') : SgR w0 φ0 br (φ', x.2) w' ∧ sgLe x (φ', x.2) := ⟨RsSt.call h hi, hi.le, .inr rfl⟩
theorem SgR.callB {w0 W w' : World} {φ0 : Phi} {br : Nat} {x : Sg} (h : SgR w0 φ0 br x W) (hb : Below W.heap.size W w') : SgR w0 φ0 br x w' := RsSt.callB h hb
theorem SgR.fz {w0 W : World} {φ0 : Phi} {br : Nat} {x : Sg} (h : SgR w0 φ0 br x W) : Fz x.1 W := RsSt.inv h |>.fz
theorem SgR.facts {w0 W : World} {φ0 : Phi} {br : Nat} {x : Sg} (h : SgR w0 φ0 br x W) : ∃ c0 c1 c2, W.cell? ⟨br, 0, none⟩ = some c0 ∧ W.cell? ⟨br, 1, none⟩ = some c1 ∧ W.cell? ⟨br, 2, none⟩ = some c2 ∧ W.frozen? ⟨br, 0, none⟩ = false ∧ W.frozen? ⟨br, 1, none⟩ = false ∧ W.frozen? ⟨br, 2, none⟩ = false := by
  have k := RsSt.k h
  obtain ⟨ψ, o⟩ := x
  cases o with
  | none => exact ⟨_, _, _, k.cell 0, k.cell 1, k.cell 2, k.frz 0, k.frz 1, k.frz 2⟩
  | some y => exact ⟨_, _, _, k.cell 0, k.cell 1, k.cell 2, k.frz 0, k.frz 1, k.frz 2⟩
theorem SgR.put {w0 W : World} {φ0 : Phi} {br : Nat} {x : Sg} (h : SgR w0 φ0 br x W) (u0 u1 u2 : Value) : SgR w0 φ0 br (x.1, some (u0, u1, u2)) (((W.setCell ⟨br, 0, none⟩ u0).setCell ⟨br, 1, none⟩ u1).setCell ⟨br, 2, none⟩ u2) := by
  have k := ((RsSt.set h 0 u0).set 1 u1).set 2 u2
  obtain ⟨ψ, o⟩ := x
  cases o with
  | none => exact k
  | some y => exact k
theorem jn3 {s : ByteArray} {t1 t2 : Int} {us : List Unt} {u1 : Int} {u2 : ByteArray} {u3 u4 : Int} {v1 : Int} {v2 : ByteArray} {v3 v4 : Int} : jnR 3 (s, t1, t2) us (u1, u2, u3, u4) (v1, v2, v3, v4) = if u3 = v3 then (((t1 * szU (clU us u3) : Int) : Rat) / ((szU us : Int) : Rat)) * (((t2 * (t2 - 1) : Int) : Rat) / (((((clU us u3).length : Int) * (((clU us u3).length : Int) - 1) : Int)) : Rat)) else (((bthI (csL us) t1 (iC us u3) (iC us v3) : Int) : Rat) / ((szU us : Int) : Rat)) * (((t2 : Rat) / ((((clU us u3).length : Int)) : Rat)) * ((t2 : Rat) / ((((clU us v3).length : Int)) : Rat))) := by
  unfold jnR
  rw [if_neg (by decide), if_neg (by decide)]
theorem Rcluster_N {w0 W : World} {φ0 φ : Phi} {br : Nat} (h : Hid (RcN w0 φ0 br φ W)) {a : Option Addr} {c n : Nat} {l : List Unt} (s : Hid (SlV φ a c l)) (hn : Hid (l.length = n)) (hl : n ≤ 5000) {z : Int} {cl : List Unt} {nv : Nat} (hc : Hid (clU l z = cl)) (hv : Hid (cl.length = nv)) :
    Calls Tryz.prog 93 #[.slice a n c, .int .i64 z] W (fun e w' => ∃ a4 c4, e = .returned (.slice a4 nv c4) ∧ Hid (RcN w0 φ0 br φ w')) :=
  (Rcluster_any h.out.fz s.out hn hl z).mono fun e w' q => by
    obtain ⟨a4, c4, ψ', rfl, hi, s4⟩ := q
    rw [hc.out, hv.out]
    exact ⟨a4, c4, rfl, Lib.hid (RsSt.callB h.out hi.bel)⟩
set_option maxRecDepth 100000 in
set_option maxHeartbeats 8000000 in
theorem Rjoint12_any {M : Nat} (hM : Hid (MOk M)) (hRD : Hid (RdivOk M)) {w : World} {kind : Int} (hk : kind = 1 ∨ kind = 2) {s : ByteArray} {t1 t2 : Int} {a : Option Addr} {c n : Nat} {us : List Unt} {φ : Phi} (hφ : Fz φ w) (sl : SlV φ a c us) (hn : Hid (us.length = n)) (hl : n ≤ 5000) (hok : Hid (∀ u ∈ us, 1 ≤ u.2.2.2 ∧ u.2.2.2 ≤ 1000000)) (ht : Hid (TkOk kind (s, t1, t2) us))
    {i k : Nat} (hi : i < n) (hkn : k < n) {u1 : Int} {u2 : ByteArray} {u3 u4 : Int} (hu : Hid (us.getD i unt0 = (u1, u2, u3, u4))) {v1 : Int} {v2 : ByteArray} {v3 v4 : Int} (hv : Hid (us.getD k unt0 = (v1, v2, v3, v4))) (hiu : Hid (iU us u1 = i)) (hiv : Hid (iU us v1 = k)) (hne : Hid (u1 ≠ v1)) {NB : Nat} (hNB : Hid (100000000000000 * 100000000000000 * 100000000000000 ≤ NB ∧ NB ≤ M)) :
    Calls Tryz.prog 46 #[.int .i64 kind, .agg #[.string s, .int .i64 t1, .int .i64 t2], .slice a n c, .int .i64 (i : Int), .int .i64 (k : Int)] w (FrXP (jnR kind (s, t1, t2) us (u1, u2, u3, u4) (v1, v2, v3, v4)) NB NB φ w) := by
  obtain ⟨φ1, hle1, hi1, hb1⟩ := (Inv.start hφ).frz (.cells #[.string s, .int .i64 t1, .int .i64 t2] 73)
  have hx0 := RsSt.start hi1 #[.bool false, .slice none 0 0, .slice none 0 0] 55
  have HX0 : Hid (RsSt w φ φ1 (w.heap.size + 1) #[.bool false, .slice none 0 0, .slice none 0 0] 55 ((w.alloc (.cells #[.string s, .int .i64 t1, .int .i64 t2] 73)).alloc (.cells #[.bool false, .slice none 0 0, .slice none 0 0] 55))) := Lib.hid (by simpa only [alloc_sz] using hx0)
  have SL := Lib.hid (sl.mono hle1)
  have HB1 := Lib.hid hb1
  clear hx0 hi1 hb1 hle1 hφ sl
  have hmu : (u1, u2, u3, u4) ∈ us := by rw [← hu.out, getD_elem0 _ _ _ (by rw [hn.out]; exact hi)]; exact List.getElem_mem _
  have hmv : (v1, v2, v3, v4) ∈ us := by rw [← hv.out, getD_elem0 _ _ _ (by rw [hn.out]; exact hkn)]; exact List.getElem_mem _
  have HMU := Lib.hid hmu
  have HMV := Lib.hid hmv
  have hn2 : 2 ≤ n := by
    rw [← hn.out]
    exact two_le hmu hmv (fun e => hne.out (congrArg (·.1) e))
  clear hmu hmv
  obtain ⟨bU, oU, rfl, f⟩ := SL.out.untD hn hi
  have F1 := Lib.hid (f i hi)
  have F2 := Lib.hid (f k hkn)
  rw [hu.out] at F1
  rw [hv.out] at F2
  clear f
  have hS9 := fun (W : World) (hf : Fz φ1 W) => (⟨(F1.out W hf).2, (F2.out W hf).2⟩ : (W.cell? ⟨bU, oU + i * 4, none⟩ = some (.int .i64 u1) ∧ W.cell? ⟨bU, oU + i * 4 + 1, none⟩ = some (.string u2) ∧ W.cell? ⟨bU, oU + i * 4 + 2, none⟩ = some (.int .i64 u3) ∧ W.cell? ⟨bU, oU + i * 4 + 3, none⟩ = some (.int .i64 u4)) ∧ (W.cell? ⟨bU, oU + k * 4, none⟩ = some (.int .i64 v1) ∧ W.cell? ⟨bU, oU + k * 4 + 1, none⟩ = some (.string v2) ∧ W.cell? ⟨bU, oU + k * 4 + 2, none⟩ = some (.int .i64 v3) ∧ W.cell? ⟨bU, oU + k * 4 + 3, none⟩ = some (.int .i64 v4)))
  go_enter Tryz.func46, Tryz.ntmps46
  go_upto_region 1 with (fail)
  generalize (w.alloc (.cells #[.string s, .int .i64 t1, .int .i64 t2] 73)).alloc (.cells #[.bool false, .slice none 0 0, .slice none 0 0] 55) = w1 at *
  have g3 : (0 : Int) ≤ (i : Int) := by omega
  have g4 : (i : Int) < n := by omega
  have g5 : (0 : Int) ≤ (k : Int) := by omega
  have g6 : (k : Int) < n := by omega
  have hF1 : Fz φ1 w1 := HX0.out.inv.fz
  have hN : ∀ g, w1.heap.size ≤ g → φ1 g = none := fun g hg => HX0.out.inv.fz.new_none hg
  apply wp_region_cutV (fun (j : Nat × Nat) => [(18, .slice (some ⟨bU, oU, none⟩) n c), (19, .int .i64 (i : Int)), (20, .pointer (some ⟨bU, oU + i * 4, none⟩)), (21, .agg #[.int .i64 u1, .string u2, .int .i64 u3, .int .i64 u4]), (22, .slice (some ⟨bU, oU, none⟩) n c), (23, .int .i64 (k : Int)), (24, .pointer (some ⟨bU, oU + k * 4, none⟩)), (25, .agg #[.int .i64 v1, .string v2, .int .i64 v3, .int .i64 v4]), (11, .pointer (some ⟨j.1, 0, none⟩)), (12, .pointer (some ⟨j.2, 0, none⟩))])
    (fun j W => Bx3 w φ φ1 (w.heap.size + 1) j.1 (.cells #[.int .i64 u1, .string u2, .int .i64 u3, .int .i64 u4] 64) j.2 (.cells #[.int .i64 v1, .string v2, .int .i64 v3, .int .i64 v4] 64) W)
  case h1 =>
    intro KK hKK
    go_region_held3 (fun W => (W.cell? ⟨bU, oU + i * 4, none⟩ = some (.int .i64 u1) ∧ W.cell? ⟨bU, oU + i * 4 + 1, none⟩ = some (.string u2) ∧ W.cell? ⟨bU, oU + i * 4 + 2, none⟩ = some (.int .i64 u3) ∧ W.cell? ⟨bU, oU + i * 4 + 3, none⟩ = some (.int .i64 u4)) ∧ (W.cell? ⟨bU, oU + k * 4, none⟩ = some (.int .i64 v1) ∧ W.cell? ⟨bU, oU + k * 4 + 1, none⟩ = some (.string v2) ∧ W.cell? ⟨bU, oU + k * 4 + 2, none⟩ = some (.int .i64 v3) ∧ W.cell? ⟨bU, oU + k * 4 + 3, none⟩ = some (.int .i64 v4))) (first | ((with_reducible refine hS9 _ ?_); repeat (first | with_reducible exact hF1 | (with_reducible refine Fz.drew1 ?_) | (with_reducible refine Fz.alloc ?_ _) | (with_reducible refine Fz.setN ?_ hN (by simp) _))) | fail) (first | fail)
    all_goals
      refine onlyN_mk ?_
      have hk := fun x y W s => hKK.out (x, y) W s
      simp only [updA, List.foldl_cons, List.foldl_nil, List.setIfInBounds_toArray, List.set_cons_succ, List.set_cons_zero] at hk
      first
        | exact hk _ _ _ (Bx3.one HX0.out _ _)
        | exact hk _ _ _ (Bx3.two HX0.out _ _)
  case h2 =>
  rintro ⟨bx, by_⟩ W9 hF9
  simp only [updA, List.foldl_cons, List.foldl_nil, List.setIfInBounds_toArray, List.set_cons_succ, List.set_cons_zero]
  obtain ⟨φ2, hX2, hle2, hbx, hby⟩ := hF9
  have HX2 := Lib.hid hX2
  have hfc := Lib.hid (fun (ψ : Phi) (W : World) (hl : φ2.le ψ) (hf : Fz ψ W) => (⟨⟨box_cell HB1.out (hle2.trans hl) hf 1, box_cell HB1.out (hle2.trans hl) hf 2⟩, (hf.blk (hl _ _ hbx)).cell 2, (hf.blk (hl _ _ hby)).cell 2⟩ : (W.cell? ⟨w.heap.size, 1, none⟩ = some (.int .i64 t1) ∧ W.cell? ⟨w.heap.size, 2, none⟩ = some (.int .i64 t2)) ∧ W.cell? ⟨bx, 2, none⟩ = some (.int .i64 u3) ∧ W.cell? ⟨by_, 2, none⟩ = some (.int .i64 v3)))
  have SL2 := Lib.hid (SL.out.mono hle2)
  clear hX2 hle2 hbx hby HX0 hN hF1 hS9 g3 g4 g5 g6
  obtain ⟨sz, hsz⟩ : ∃ z, Hid (szU us = z) := ⟨_, Lib.hid rfl⟩
  have hszb := szU_bd hok.out
  rw [hsz.out, hn.out] at hszb
  have hlo := ht.out.lo
  have hhi := ht.out.hi
  rw [hn.out] at hhi
  dsimp only at hlo hhi
  obtain ⟨⟨y1, y2⟩, y3, y4⟩ := hfc.out φ2 W9 φ2.le_refl HX2.out.inv.fz
  have HR2 : Hid (RcN w φ (w.heap.size + 1) φ2 W9) := HX2
  have N1 : Hid (100000000000000 ≤ NB) := Lib.hid (Nat.le_trans (by decide) hNB.out.1)
  rcases hk with rfl | rfl
  · have em : t1 * max 0 (t1 - 1) = t1 * (t1 - 1) := by
      by_cases e : t1 = 0
      · subst e; simp
      · rw [show max 0 (t1 - 1) = t1 - 1 by omega]
    have p1 : 0 ≤ t1 * (t1 - 1) ∧ t1 * (t1 - 1) ≤ 25000000 := by
      by_cases e : t1 = 0
      · subst e; simp
      · exact ⟨Int.mul_nonneg hlo (by omega), Int.le_trans (Int.mul_le_mul (show t1 ≤ 5000 by omega) (show t1 - 1 ≤ 5000 by omega) (by omega) (by decide)) (by decide)⟩
    have p2 : 0 < (n : Int) * ((n : Int) - 1) ∧ (n : Int) * ((n : Int) - 1) ≤ 25000000 := ⟨Int.mul_pos (by omega) (by omega), Int.le_trans (Int.mul_le_mul (show (n : Int) ≤ 5000 by omega) (show (n : Int) - 1 ≤ 5000 by omega) (by omega) (by decide)) (by decide)⟩
    have w1' : IntKind.i64.wrap (t1 - 1) = t1 - 1 := IntWalk.i64_in _ (by omega)
    have w2' : IntKind.i64.wrap ((n : Int) - 1) = (n : Int) - 1 := IntWalk.i64_in _ (by omega)
    have w3' : IntKind.i64.wrap (t1 * max 0 (t1 - 1)) = t1 * (t1 - 1) := by rw [em]; exact IntWalk.i64_in _ (by omega)
    have w4' : IntKind.i64.wrap ((n : Int) * ((n : Int) - 1)) = (n : Int) * ((n : Int) - 1) := IntWalk.i64_in _ (by omega)
    have hx : Hid (jnR 1 (s, t1, t2) us (u1, u2, u3, u4) (v1, v2, v3, v4) = ((t1 * (t1 - 1) : Int) : Rat) / ((((n : Int) * ((n : Int) - 1) : Int)) : Rat)) := Lib.hid (by rw [← hn.out]; rfl)
    have hb := Lib.hid (show 0 ≤ t1 * (t1 - 1) ∧ t1 * (t1 - 1) ≤ 100000000000000 ∧ 0 < (n : Int) * ((n : Int) - 1) ∧ (n : Int) * ((n : Int) - 1) ≤ 100000000000000 by omega)
    clear em
    go_wp2_with (go_at_call 92; (with_reducible refine (RPart_Q (RcN.sta w φ (w.heap.size + 1)) hb.out HR2).mono ?_); rintro e w7 ⟨g, p1, k1, c1, p2, k2, c2, φ7, rfl, H7, L7, V7⟩; clear y1 y2 y3 y4; have H7 : Hid (RsSt w φ φ7 (w.heap.size + 1) #[.bool false, .slice none 0 0, .slice none 0 0] 55 w7) := H7; have r0 : w7.cell? ⟨w.heap.size + 1, 0, none⟩ = some (.bool false) := H7.out.k.cell 0; have r1 : w7.cell? ⟨w.heap.size + 1, 1, none⟩ = some (.slice none 0 0) := H7.out.k.cell 1; have r2 : w7.cell? ⟨w.heap.size + 1, 2, none⟩ = some (.slice none 0 0) := H7.out.k.cell 2; have r3 := H7.out.k.frz 0; have r4 := H7.out.k.frz 1; have r5 := H7.out.k.frz 2)
    have hZ := Lib.hid (((H7.out.set 0 (.bool g)).set 1 (.slice p1 k1 c1)).set 2 (.slice p2 k2 c2))
    have e0 : _ = some (Value.bool g) := hZ.out.k.cell 0
    have e1 : _ = some (Value.slice p1 k1 c1) := hZ.out.k.cell 1
    have e2 : _ = some (Value.slice p2 k2 c2) := hZ.out.k.cell 2
    (try simp only [Exit.inBlock, Exit.then])
    refine bodyPost_ret (v := .agg #[.bool g, .slice p1 k1 c1, .slice p2 k2 c2]) (by simp [results, Tryz.results46, go_sem, e0, e1, e2]) rfl ?_
    exact ⟨_, φ7, rfl, hZ.out.inv, by rw [hx.out]; exact V7.out.leD N1.out N1.out⟩
  · have hS := sy_ok (by decide) ht.out hn.out (show 0 < n by omega) hl hok.out
    obtain ⟨zs, hzs⟩ : ∃ zs, Hid (us.map (fun u => u.2.2.2) = zs) := ⟨_, Lib.hid rfl⟩
    have hzl : Hid (zs.length = n) := Lib.hid (by rw [← hzs.out, ← hn.out]; exact List.length_map _)
    have HS : Hid (SyOk zs n t1 sz) := Lib.hid (by
      have e : elmL 2 us = zs := hzs.out
      rw [e, hzl.out, hsz.out] at hS
      exact hS)
    obtain ⟨R, hR_⟩ : ∃ R, Hid (bthI zs t1 i k = R) := ⟨_, Lib.hid rfl⟩
    have hRb := HS.out.bd hi hkn
    rw [hR_.out] at hRb
    have hb := Lib.hid (show 0 ≤ R ∧ R ≤ 100000000000000 ∧ 0 < sz ∧ sz ≤ 100000000000000 by omega)
    have hx : Hid (jnR 2 (s, t1, t2) us (u1, u2, u3, u4) (v1, v2, v3, v4) = (R : Rat) / ((sz : Int) : Rat)) := Lib.hid (by
      rw [← hR_.out, ← hzs.out, ← hsz.out, ← hiu.out, ← hiv.out]; rfl)
    have hl5 : n ≤ 5000 := hl
    clear hS hRb y1 y2 y3 y4 hszb hlo hhi
    go_upto_region 6 with (fail)
    apply wp_region_cutV (fun (vals : Nat → Value) => [(45, vals 0), (46, vals 1), (47, vals 2), (48, vals 3), (49, vals 4), (50, vals 5), (51, vals 6), (52, vals 7), (53, vals 8), (54, vals 9), (55, vals 10)])
      (fun _ W => ∃ g p1 k1 c1 p2 k2 c2 ψ, RsSt w φ ψ (w.heap.size + 1) #[.bool g, .slice p1 k1 c1, .slice p2 k2 c2] 55 W ∧ FrX ψ (.agg #[.bool g, .slice p1 k1 c1, .slice p2 k2 c2]) ((R : Rat) / ((sz : Int) : Rat)) 100000000000000 100000000000000)
    case h1 =>
      intro KK hKK
      refine wp_free (σ := Sg) (le := sgLe) (R := SgR w φ (w.heap.size + 1)) (V := fun (jj : Nat) (x : Sg) (v : Value) => match jj with
        | 0 => v = Value.slice (some ⟨bU, oU, none⟩) n c
        | 1 => ∃ a c, v = Value.slice a n c ∧ SlV x.1 a c zs
        | 2 => v = Value.pointer (some ⟨w.heap.size, 1, none⟩)
        | 3 => v = Value.int .i64 t1
        | 4 => v = Value.int .i64 (i : Int)
        | 5 => v = Value.int .i64 (k : Int)
        | 6 => v = Value.int .i64 R
        | 7 => v = Value.slice (some ⟨bU, oU, none⟩) n c
        | 8 => ∃ a c, v = Value.slice a n c ∧ SlV x.1 a c zs
        | 9 => v = Value.int .i64 sz
        | 10 => ∃ g p1 k1 c1 p2 k2 c2, v = Value.agg #[.bool g, .slice p1 k1 c1, .slice p2 k2 c2] ∧ FrX x.1 (.agg #[.bool g, .slice p1 k1 c1, .slice p2 k2 c2]) ((R : Rat) / ((sz : Int) : Rat)) 100000000000000 100000000000000
        | 11 => ∃ g p1 k1 c1 p2 k2 c2, x.2 = some (Value.bool g, Value.slice p1 k1 c1, Value.slice p2 k2 c2) ∧ FrX x.1 (.agg #[.bool g, .slice p1 k1 c1, .slice p2 k2 c2]) ((R : Rat) / ((sz : Int) : Rat)) 100000000000000 100000000000000
        | _ => True) (B := fun jj x => jj = 11 → x.2 = none) (ψ0 := (φ2, none)) (by kernel_rfl) sgLe_refl sgLe_trans ?vm (by kernel_rfl) (show RsSt _ _ _ _ _ _ _ from HX2.out.drewN 1) (fun _ _ => rfl) (all_of ⟨?s0, ?s1, ?s2, ?s3, ?s4, ?s5, ?s6, ?s7, ?s8, ?s9, ?s10, ?s11, trivial⟩) ?fin
      case vm =>
        intro jj x y v hxy h
        match jj, h with
        | 0, h => exact h
        | 1, h => obtain ⟨a, c, e, q⟩ := h; exact ⟨a, c, e, q.mono hxy.1⟩
        | 2, h => exact h
        | 3, h => exact h
        | 4, h => exact h
        | 5, h => exact h
        | 6, h => exact h
        | 7, h => exact h
        | 8, h => obtain ⟨a, c, e, q⟩ := h; exact ⟨a, c, e, q.mono hxy.1⟩
        | 9, h => exact h
        | 10, h => obtain ⟨g, p1, k1, c1, p2, k2, c2, e, q⟩ := h; exact ⟨g, p1, k1, c1, p2, k2, c2, e, q.mono hxy.1⟩
        | 11, h =>
          obtain ⟨g, p1, k1, c1, p2, k2, c2, e, q⟩ := h
          refine ⟨g, p1, k1, c1, p2, k2, c2, ?_, q.mono hxy.1⟩
          rcases hxy.2 with h | h
          · rw [h] at e; cases e
          · rw [h, e]
        | _ + 12, h => trivial
      case fin =>
        intro x W vals hl hR hv
        obtain ⟨g, p1, k1, c1, p2, k2, c2, e, q⟩ := hv 11 (by decide)
        have hk := hKK.out vals W ⟨g, p1, k1, c1, p2, k2, c2, x.1, by unfold SgR at hR; rw [e] at hR; exact hR, q⟩
        exact hk
      case s0 =>
        refine ⟨[], by kernel_rfl, ?_⟩
        intro x W vals hl hR hB hv K' hK
        have hl1 : φ2.le x.1 := hl.1
        simp only [List.map_cons, List.map_nil] at hK ⊢
        simp only [updF, List.foldl_cons, List.foldl_nil, List.setIfInBounds_toArray, List.set_cons_succ, List.set_cons_zero]
        go_simp
        exact hK.out _ _ _ x (sgLe_refl x) hR (fun _ _ h => h) rfl rfl
      case s1 =>
        refine ⟨[(45, 0)], by kernel_rfl, ?_⟩
        intro x W vals hl hR hB hv K' hK
        have hl1 : φ2.le x.1 := hl.1
        have h0 : vals 0 = Value.slice (some ⟨bU, oU, none⟩) n c := hv (45, 0) (by simp)
        simp only [List.map_cons, List.map_nil] at hK ⊢
        generalize vals 0 = z0 at *
        subst h0
        simp only [updF, List.foldl_cons, List.foldl_nil, List.setIfInBounds_toArray, List.set_cons_succ, List.set_cons_zero]
        go_simp
        go_at_call 91
        (with_reducible refine (Rsizes_any hR.fz (SL2.out.mono hl1) hn hl5).mono ?_)
        rintro e w' ⟨a4, c4, ψ', rfl, hi4, s4⟩
        rw [hzs.out] at s4 ⊢
        rw [hzl.out]
        obtain ⟨r4, l4⟩ := SgR.call hR hi4
        exact hK.out _ _ _ (ψ', x.2) l4 r4 (fun _ _ h => h) ⟨a4, c4, rfl, s4⟩ rfl
      case s2 =>
        refine ⟨[], by kernel_rfl, ?_⟩
        intro x W vals hl hR hB hv K' hK
        have hl1 : φ2.le x.1 := hl.1
        simp only [List.map_cons, List.map_nil] at hK ⊢
        simp only [updF, List.foldl_cons, List.foldl_nil, List.setIfInBounds_toArray, List.set_cons_succ, List.set_cons_zero]
        go_simp
        exact hK.out _ _ _ x (sgLe_refl x) hR (fun _ _ h => h) rfl rfl
      case s3 =>
        refine ⟨[(47, 2)], by kernel_rfl, ?_⟩
        intro x W vals hl hR hB hv K' hK
        have hl1 : φ2.le x.1 := hl.1
        have h2 : vals 2 = Value.pointer (some ⟨w.heap.size, 1, none⟩) := hv (47, 2) (by simp)
        simp only [List.map_cons, List.map_nil] at hK ⊢
        generalize vals 2 = z2 at *
        subst h2
        simp only [updF, List.foldl_cons, List.foldl_nil, List.setIfInBounds_toArray, List.set_cons_succ, List.set_cons_zero]
        obtain ⟨⟨m1, m2⟩, _⟩ := hfc.out x.1 W hl.1 hR.fz
        go_simp
        exact hK.out _ _ _ x (sgLe_refl x) hR (fun _ _ h => h) rfl rfl
      case s4 =>
        refine ⟨[], by kernel_rfl, ?_⟩
        intro x W vals hl hR hB hv K' hK
        have hl1 : φ2.le x.1 := hl.1
        simp only [List.map_cons, List.map_nil] at hK ⊢
        simp only [updF, List.foldl_cons, List.foldl_nil, List.setIfInBounds_toArray, List.set_cons_succ, List.set_cons_zero]
        go_simp
        exact hK.out _ _ _ x (sgLe_refl x) hR (fun _ _ h => h) rfl rfl
      case s5 =>
        refine ⟨[], by kernel_rfl, ?_⟩
        intro x W vals hl hR hB hv K' hK
        have hl1 : φ2.le x.1 := hl.1
        simp only [List.map_cons, List.map_nil] at hK ⊢
        simp only [updF, List.foldl_cons, List.foldl_nil, List.setIfInBounds_toArray, List.set_cons_succ, List.set_cons_zero]
        go_simp
        exact hK.out _ _ _ x (sgLe_refl x) hR (fun _ _ h => h) rfl rfl
      case s6 =>
        refine ⟨[(46, 1), (48, 3), (49, 4), (50, 5)], by kernel_rfl, ?_⟩
        intro x W vals hl hR hB hv K' hK
        have hl1 : φ2.le x.1 := hl.1
        have h1 : ∃ a c, vals 1 = Value.slice a n c ∧ SlV x.1 a c zs := hv (46, 1) (by simp)
        have h3 : vals 3 = Value.int .i64 t1 := hv (48, 3) (by simp)
        have h4 : vals 4 = Value.int .i64 (i : Int) := hv (49, 4) (by simp)
        have h5 : vals 5 = Value.int .i64 (k : Int) := hv (50, 5) (by simp)
        simp only [List.map_cons, List.map_nil] at hK ⊢
        generalize vals 1 = z1 at *
        obtain ⟨a1, c1, rfl, S1⟩ := h1
        generalize vals 3 = z3 at *
        subst h3
        generalize vals 4 = z4 at *
        subst h4
        generalize vals 5 = z5 at *
        subst h5
        simp only [updF, List.foldl_cons, List.foldl_nil, List.setIfInBounds_toArray, List.set_cons_succ, List.set_cons_zero]
        go_simp
        go_at_call 108
        (with_reducible refine (together_any hR.fz S1 HS hi hkn hR_).mono ?_)
        rintro e w' ⟨rfl, hb'⟩
        exact hK.out _ _ _ x (sgLe_refl x) (hR.callB hb') (fun _ _ h => h) rfl rfl
      case s7 =>
        refine ⟨[], by kernel_rfl, ?_⟩
        intro x W vals hl hR hB hv K' hK
        have hl1 : φ2.le x.1 := hl.1
        simp only [List.map_cons, List.map_nil] at hK ⊢
        simp only [updF, List.foldl_cons, List.foldl_nil, List.setIfInBounds_toArray, List.set_cons_succ, List.set_cons_zero]
        go_simp
        exact hK.out _ _ _ x (sgLe_refl x) hR (fun _ _ h => h) rfl rfl
      case s8 =>
        refine ⟨[(52, 7)], by kernel_rfl, ?_⟩
        intro x W vals hl hR hB hv K' hK
        have hl1 : φ2.le x.1 := hl.1
        have h7 : vals 7 = Value.slice (some ⟨bU, oU, none⟩) n c := hv (52, 7) (by simp)
        simp only [List.map_cons, List.map_nil] at hK ⊢
        generalize vals 7 = z7 at *
        subst h7
        simp only [updF, List.foldl_cons, List.foldl_nil, List.setIfInBounds_toArray, List.set_cons_succ, List.set_cons_zero]
        go_simp
        go_at_call 91
        (with_reducible refine (Rsizes_any hR.fz (SL2.out.mono hl1) hn hl5).mono ?_)
        rintro e w' ⟨a4, c4, ψ', rfl, hi4, s4⟩
        rw [hzs.out] at s4 ⊢
        rw [hzl.out]
        obtain ⟨r4, l4⟩ := SgR.call hR hi4
        exact hK.out _ _ _ (ψ', x.2) l4 r4 (fun _ _ h => h) ⟨a4, c4, rfl, s4⟩ rfl
      case s9 =>
        refine ⟨[(53, 8)], by kernel_rfl, ?_⟩
        intro x W vals hl hR hB hv K' hK
        have hl1 : φ2.le x.1 := hl.1
        have h8 : ∃ a c, vals 8 = Value.slice a n c ∧ SlV x.1 a c zs := hv (53, 8) (by simp)
        simp only [List.map_cons, List.map_nil] at hK ⊢
        generalize vals 8 = z8 at *
        obtain ⟨a8, c8, rfl, S8⟩ := h8
        simp only [updF, List.foldl_cons, List.foldl_nil, List.setIfInBounds_toArray, List.set_cons_succ, List.set_cons_zero]
        go_simp
        go_at_call 90
        (with_reducible refine (tot_all hR.fz S8 HS).mono ?_)
        rintro e w' ⟨rfl, hw'⟩
        exact hK.out _ _ _ x (sgLe_refl x) (by rw [hw']; exact hR) (fun _ _ h => h) rfl rfl
      case s10 =>
        refine ⟨[(51, 6), (54, 9)], by kernel_rfl, ?_⟩
        intro x W vals hl hR hB hv K' hK
        have hl1 : φ2.le x.1 := hl.1
        have h6 : vals 6 = Value.int .i64 R := hv (51, 6) (by simp)
        have h9 : vals 9 = Value.int .i64 sz := hv (54, 9) (by simp)
        simp only [List.map_cons, List.map_nil] at hK ⊢
        generalize vals 6 = z6 at *
        subst h6
        generalize vals 9 = z9 at *
        subst h9
        simp only [updF, List.foldl_cons, List.foldl_nil, List.setIfInBounds_toArray, List.set_cons_succ, List.set_cons_zero]
        go_simp
        go_at_call 92
        (with_reducible refine (RPart_Q (P := fun ψ W => SgR w φ (w.heap.size + 1) (ψ, x.2) W) (φ := x.1) ⟨fun h => SgR.fz h, fun h hi => (SgR.call h hi).1⟩ hb.out (Lib.hid hR)).mono ?_)
        rintro e w' ⟨g, p1, k1, c1, p2, k2, c2, ψ', rfl, H7, L7, V7⟩
        exact hK.out _ _ _ (ψ', x.2) ⟨L7.out, .inr rfl⟩ H7.out (fun _ _ h => h) ⟨g, p1, k1, c1, p2, k2, c2, rfl, V7.out⟩ rfl
      case s11 =>
        refine ⟨[(55, 10)], by kernel_rfl, ?_⟩
        intro x W vals hl hR hB hv K' hK
        have hl1 : φ2.le x.1 := hl.1
        have h10 : ∃ g p1 k1 c1 p2 k2 c2, vals 10 = Value.agg #[.bool g, .slice p1 k1 c1, .slice p2 k2 c2] ∧ FrX x.1 (.agg #[.bool g, .slice p1 k1 c1, .slice p2 k2 c2]) ((R : Rat) / ((sz : Int) : Rat)) 100000000000000 100000000000000 := hv (55, 10) (by simp)
        simp only [List.map_cons, List.map_nil] at hK ⊢
        generalize vals 10 = z10 at *
        obtain ⟨g, p1, k1, c1, p2, k2, c2, rfl, X10⟩ := h10
        simp only [updF, List.foldl_cons, List.foldl_nil, List.setIfInBounds_toArray, List.set_cons_succ, List.set_cons_zero]
        obtain ⟨q0, q1, q2, m0, m1, m2, m3, m4, m5⟩ := SgR.facts hR
        go_simp
        exact hK.out _ undef _ (x.1, some (.bool g, .slice p1 k1 c1, .slice p2 k2 c2)) ⟨x.1.le_refl, .inl (hB rfl)⟩ (SgR.put hR _ _ _) (fun j hj _ e => absurd e hj) ⟨g, p1, k1, c1, p2, k2, c2, rfl, X10⟩ rfl
    case h2 =>
    rintro vals W10 ⟨g, p1, k1, c1, p2, k2, c2, φ7, hRZ, V7⟩
    simp only [updA, List.foldl_cons, List.foldl_nil, List.setIfInBounds_toArray, List.set_cons_succ, List.set_cons_zero]
    have hZ := Lib.hid hRZ
    go_wp2
    have e0 : _ = some (Value.bool g) := hZ.out.k.cell 0
    have e1 : _ = some (Value.slice p1 k1 c1) := hZ.out.k.cell 1
    have e2 : _ = some (Value.slice p2 k2 c2) := hZ.out.k.cell 2
    (try simp only [Exit.inBlock, Exit.then])
    refine bodyPost_ret (v := .agg #[.bool g, .slice p1 k1 c1, .slice p2 k2 c2]) (by simp [results, Tryz.results46, go_sem, e0, e1, e2]) rfl ?_
    exact ⟨_, φ7, rfl, hZ.out.inv, by rw [hx.out]; exact V7.leD N1.out N1.out⟩
end Go.Proofs.YtnlhalnjbkpdnaaGreatDoor
