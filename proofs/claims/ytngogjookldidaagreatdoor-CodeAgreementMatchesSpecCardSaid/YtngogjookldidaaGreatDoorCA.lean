/- The agreement of two coders: the plain law (pairs of codes, sums over counted keys, the exchange of two coders). Maps whose keys are pairs of integers: what looking up and '++' do, and ranging over them. Maps keyed by pairs of codes: counts in them, and ranging over them. The walk of common: how often each pair of codes of two coders occurs. The walks of both and of fraction (package code). Conditions: the library's table of powers of ten reads as it was laid. The walk of Kappa. Conditions: the library's table of powers of ten reads as it was laid. Conditions: none beyond what the claim form gives. -/
import Derived.Test.YtngogjookldidaaGreatDoorKA
import Derived.Test.YtngogjookldidaaGreatDoorKB
import Derived.Laws.StructEq
import Derived.RegionTactic
import Derived.BigRegion
import Derived.Deep.DeepCutAuto
import Derived.Test.YtngogjookldidaaGreatDoorPB
namespace Go.Proofs.YtngogjookldidaaGreatDoor
set_option linter.unusedVariables false
set_option linter.unusedSimpArgs false

abbrev Pr := Int × Int
/-- The code that a coder gave a case (0: none), and the pair of two coders' codes. -/
def pickC (a : Int) : List Cdg → Int := fun g => g.foldl (fun s x => if x.2.1 = a then x.2.2 else s) 0
def pairG (a b : Int) (g : List Cdg) : Pr := (pickC a g, pickC b g)
def okP (p : Pr) : Bool := decide (p.1 ≠ 0) && decide (p.2 ≠ 0)
def prsL (gs : List (List Cdg)) (a b : Int) : List Pr := (gs.map (pairG a b)).filter okP
theorem pickC_snoc (a : Int) (g : List Cdg) (x : Cdg) : pickC a (g ++ [x]) = if x.2.1 = a then x.2.2 else pickC a g := by
  unfold pickC; rw [List.foldl_append]; rfl
theorem prsL_snoc (gs : List (List Cdg)) (a b : Int) (g : List Cdg) : prsL (gs ++ [g]) a b = prsL gs a b ++ (if okP (pairG a b g) = true then [pairG a b g] else []) := by
  unfold prsL
  rw [List.map_append, List.filter_append]
  by_cases h : okP (pairG a b g) = true <;> simp [h]
theorem prsL_len (gs : List (List Cdg)) (a b : Int) : (prsL gs a b).length ≤ gs.length := by
  have := List.length_filter_le okP (gs.map (pairG a b)); rw [List.length_map] at this; exact this
theorem prsL_swap (gs : List (List Cdg)) (a b : Int) : prsL gs b a = (prsL gs a b).map (fun p => (p.2, p.1)) := by
  unfold prsL
  induction gs with
  | nil => rfl
  | cons g gs ih =>
    rw [List.map_cons, List.map_cons, List.filter_cons, List.filter_cons, ih]
    have e : okP (pairG b a g) = okP (pairG a b g) := by unfold okP pairG; exact Bool.and_comm _ _
    rw [e]
    split
    · rw [List.map_cons]; rfl
    · rfl

/-- How many of a list are of a kind. -/
def cntP {α : Type} (p : α → Prop) [DecidablePred p] (L : List α) : Nat := (L.filter (fun q => decide (p q))).length
section
variable {α κ : Type}
theorem cntP_cons (p : α → Prop) [DecidablePred p] (x : α) (L : List α) : cntP p (x :: L) = (if p x then 1 else 0) + cntP p L := by
  unfold cntP; rw [List.filter_cons]; by_cases h : p x <;> simp [h]; omega
theorem cntP_snoc (p : α → Prop) [DecidablePred p] (x : α) (L : List α) : cntP p (L ++ [x]) = cntP p L + if p x then 1 else 0 := by
  unfold cntP; rw [List.filter_append]; by_cases h : p x <;> simp [h]
theorem cntP_le (p : α → Prop) [DecidablePred p] (L : List α) : cntP p L ≤ L.length := List.length_filter_le _ _
theorem cntP_pos (p : α → Prop) [DecidablePred p] {L : List α} {x : α} (h : x ∈ L) (hp : p x) : 0 < cntP p L := by
  unfold cntP; exact List.length_pos_of_mem (List.mem_filter.2 ⟨h, by simpa using hp⟩)
theorem cntP_mem {p : α → Prop} [DecidablePred p] {L : List α} (h : 0 < cntP p L) : ∃ x ∈ L, p x := by
  unfold cntP at h
  obtain ⟨x, hx⟩ := List.exists_mem_of_length_pos h
  rw [List.mem_filter] at hx
  exact ⟨x, hx.1, by simpa using hx.2⟩
theorem cntP_all {p : α → Prop} [DecidablePred p] {L : List α} (h : ∀ x ∈ L, p x) : cntP p L = L.length := by
  unfold cntP; rw [List.filter_eq_self.2 (fun x hx => by simpa using h x hx)]
theorem cntP_map {β : Type} (p : β → Prop) [DecidablePred p] (f : α → β) (L : List α) : cntP p (L.map f) = cntP (fun x => p (f x)) L := by
  unfold cntP; rw [List.filter_map, List.length_map]; rfl
/-- A sum over a list. -/
def sumN (S : List κ) (f : κ → Nat) : Nat := (S.map f).sum
theorem sumN_cons (k : κ) (S : List κ) (f : κ → Nat) : sumN (k :: S) f = f k + sumN S f := by unfold sumN; rw [List.map_cons, List.sum_cons]
theorem sumN_nil (f : κ → Nat) : sumN ([] : List κ) f = 0 := rfl
theorem sumN_add (S : List κ) (f g : κ → Nat) : sumN S (fun k => f k + g k) = sumN S f + sumN S g := by
  induction S with
  | nil => rfl
  | cons k S ih => rw [sumN_cons, sumN_cons, sumN_cons, ih]; omega
theorem sumN_congr {S : List κ} {f g : κ → Nat} (h : ∀ k ∈ S, f k = g k) : sumN S f = sumN S g := by
  unfold sumN; rw [List.map_congr_left h]
theorem sumN_le {S : List κ} {f g : κ → Nat} (h : ∀ k ∈ S, f k ≤ g k) : sumN S f ≤ sumN S g := by
  induction S with
  | nil => exact Nat.le_refl _
  | cons k S ih =>
    rw [sumN_cons, sumN_cons]
    have := h k (by simp); have := ih (fun x hx => h x (by simp [hx])); omega
theorem sumN_mul (S : List κ) (f : κ → Nat) (c : Nat) : sumN S (fun k => f k * c) = sumN S f * c := by
  induction S with
  | nil => simp [sumN_nil]
  | cons k S ih => rw [sumN_cons, sumN_cons, ih, Nat.add_mul]
theorem sumN_zero {S : List κ} {f : κ → Nat} (h : ∀ k ∈ S, f k = 0) : sumN S f = 0 := by
  induction S with
  | nil => rfl
  | cons k S ih => rw [sumN_cons, h k (by simp), ih (fun x hx => h x (by simp [hx]))]
theorem sumN_one [DecidableEq κ] {S : List κ} (hn : S.Nodup) (q : κ) (w : κ → Nat) : sumN S (fun k => if q = k then w k else 0) = if q ∈ S then w q else 0 := by
  induction S with
  | nil => simp [sumN_nil]
  | cons k S ih =>
    rw [List.nodup_cons] at hn
    rw [sumN_cons, ih hn.2]
    by_cases h : q = k
    · subst h; simp [hn.1]
    · simp [h]
/-- The sum over keys of a weight times how many have the key is the sum over the list of the weights of their keys. -/
theorem sum_cover [DecidableEq κ] {S : List κ} (hn : S.Nodup) (f : α → κ) (w : κ → Nat) : ∀ (L : List α), (∀ x ∈ L, f x ∈ S) → sumN S (fun k => w k * cntP (fun x => f x = k) L) = (L.map (fun x => w (f x))).sum
  | [], _ => by rw [sumN_zero (fun k _ => by simp [cntP])]; rfl
  | x :: L, h => by
    have ih := sum_cover hn f w L (fun y hy => h y (by simp [hy]))
    have e : sumN S (fun k => w k * cntP (fun y => f y = k) (x :: L)) = sumN S (fun k => (if f x = k then w k else 0) + w k * cntP (fun y => f y = k) L) := by
      refine sumN_congr (fun k _ => ?_)
      rw [cntP_cons, Nat.mul_add]
      by_cases hk : f x = k <;> simp [hk]
    rw [e, sumN_add, ih, sumN_one hn, if_pos (h x (by simp)), List.map_cons, List.sum_cons]
/-- .. no more than all. -/
theorem sum_cover_le [DecidableEq κ] {S : List κ} (hn : S.Nodup) (f : α → κ) : ∀ (L : List α), sumN S (fun k => cntP (fun x => f x = k) L) ≤ L.length
  | [] => by rw [sumN_zero (fun k _ => by simp [cntP])]; exact Nat.zero_le _
  | x :: L => by
    have ih := sum_cover_le hn f L
    have e : sumN S (fun k => cntP (fun y => f y = k) (x :: L)) = sumN S (fun k => (if f x = k then 1 else 0) + cntP (fun y => f y = k) L) := sumN_congr (fun k _ => cntP_cons _ _ _)
    rw [e, sumN_add, sumN_one hn (f x) (fun _ => 1), List.length_cons]
    split <;> omega
end
/-- Over pairs: what a kind of pairs comes to. -/
theorem sum_pairs {S : List Pr} (hn : S.Nodup) {L : List Pr} (hc : ∀ q ∈ L, q ∈ S) (p : Pr → Prop) [DecidablePred p] : sumN S (fun k => if p k then cntP (fun q => q = k) L else 0) = cntP p L := by
  have h := sum_cover hn (fun q : Pr => q) (fun k => if p k then 1 else 0) L hc
  have e : sumN S (fun k => if p k then cntP (fun q => q = k) L else 0) = sumN S (fun k => (if p k then 1 else 0) * cntP (fun q => q = k) L) := sumN_congr (fun k _ => by by_cases hk : p k <;> simp [hk])
  rw [e, h]
  clear h e hc hn
  induction L with
  | nil => rfl
  | cons x L ih => rw [List.map_cons, List.sum_cons, ih, cntP_cons]
/-- How many pairs of two are, the first of the one and the second of the other the same. -/
def chnc (L : List Pr) : Nat := (L.map (fun q => cntP (fun r : Pr => r.2 = q.1) L)).sum
def sameN (L : List Pr) : Nat := cntP (fun q : Pr => q.1 = q.2) L
theorem sameN_swap (L : List Pr) : sameN (L.map (fun p => (p.2, p.1))) = sameN L := by
  unfold sameN
  rw [cntP_map]
  induction L with
  | nil => rfl
  | cons x L ih =>
    rw [cntP_cons, cntP_cons, ih]
    by_cases h : x.1 = x.2
    · simp [h]
    · rw [if_neg h, if_neg (fun e : x.2 = x.1 => h e.symm)]
theorem sum_add_map {α : Type} (L : List α) (f g : α → Nat) : (L.map (fun x => f x + g x)).sum = (L.map f).sum + (L.map g).sum := by
  induction L with
  | nil => rfl
  | cons x L ih => simp only [List.map_cons, List.sum_cons, ih]; omega
theorem chnc_gen {α β : Type} (p : α → β → Prop) [∀ a b, Decidable (p a b)] : ∀ (L : List α) (M : List β), (L.map (fun q => cntP (fun r => p q r) M)).sum = (M.map (fun r => cntP (fun q => p q r) L)).sum
  | [], M => by
    simp only [List.map_nil, List.sum_nil]
    induction M with
    | nil => rfl
    | cons r M ih => rw [List.map_cons, List.sum_cons, ← ih]; rfl
  | q :: L, M => by
    have ih := chnc_gen p L M
    rw [List.map_cons, List.sum_cons, ih]
    have e : M.map (fun r => cntP (fun q => p q r) (q :: L)) = M.map (fun r => (if p q r then 1 else 0) + cntP (fun q => p q r) L) := List.map_congr_left (fun r _ => cntP_cons _ _ _)
    rw [e, sum_add_map]
    congr 1
    clear e ih
    induction M with
    | nil => rfl
    | cons r M ih => rw [List.map_cons, List.sum_cons, cntP_cons, ih]
theorem chnc_swap (L : List Pr) : chnc (L.map (fun p => (p.2, p.1))) = chnc L := by
  unfold chnc
  rw [List.map_map]
  have e : L.map ((fun q => cntP (fun r : Pr => r.2 = q.1) (L.map (fun p => (p.2, p.1)))) ∘ fun p => (p.2, p.1)) = L.map (fun q => cntP (fun r : Pr => r.1 = q.2) L) := by
    refine List.map_congr_left (fun q _ => ?_)
    simp only [Function.comp]
    rw [cntP_map]
  rw [e, chnc_gen (fun (q r : Pr) => r.1 = q.2) L L]
  congr 1
  refine List.map_congr_left (fun r _ => ?_)
  unfold cntP
  congr 1
  refine List.filter_congr (fun q _ => ?_)
  exact decide_eq_decide.2 ⟨fun h => h.symm, fun h => h.symm⟩
theorem chnc_le (L : List Pr) : chnc L ≤ L.length * L.length := by
  unfold chnc
  have : ∀ M : List Pr, (M.map (fun q => cntP (fun r : Pr => r.2 = q.1) L)).sum ≤ M.length * L.length := by
    intro M
    induction M with
    | nil => simp
    | cons x M ih =>
      rw [List.map_cons, List.sum_cons, List.length_cons, Nat.add_mul]
      have := cntP_le (fun r : Pr => r.2 = x.1) L
      omega
  exact this L
/-- The sum over first codes. -/
theorem chnc_sum {S : List Int} (hn : S.Nodup) {L : List Pr} (hc : ∀ q ∈ L, q.1 ∈ S) : sumN S (fun c => cntP (fun q : Pr => q.1 = c) L * cntP (fun q : Pr => q.2 = c) L) = chnc L := by
  rw [show (fun c => cntP (fun q : Pr => q.1 = c) L * cntP (fun q : Pr => q.2 = c) L) = fun c => cntP (fun q : Pr => q.2 = c) L * cntP (fun q : Pr => q.1 = c) L by funext c; exact Nat.mul_comm _ _, sum_cover hn (fun q : Pr => q.1) (fun c => cntP (fun q : Pr => q.2 = c) L) L hc]
  rfl
theorem chnc_part {S : List Int} (hn : S.Nodup) (L : List Pr) : sumN S (fun c => cntP (fun q : Pr => q.1 = c) L * cntP (fun q : Pr => q.2 = c) L) ≤ L.length * L.length := by
  refine Nat.le_trans (sumN_le (g := fun c => cntP (fun q : Pr => q.1 = c) L * L.length) (fun c _ => Nat.mul_le_mul_left _ (cntP_le _ _))) ?_
  rw [sumN_mul]
  exact Nat.mul_le_mul_right _ (sum_cover_le hn _ L)
end Go.Proofs.YtngogjookldidaaGreatDoor

namespace Go.Proofs.YtngogjookldidaaGreatDoor
open Go.RowKit
set_option linter.unusedVariables false
set_option linter.unusedSimpArgs false
theorem goInt_eq (n : Int) : goInt n = .int .i64 n := rfl
section
variable {κ α : Type} [DecidableEq κ] [KeyV κ] {vr : α → Value → Prop}
/-- A new entry; an entry that is there. -/
theorem MapO.push {es : Array MapEntry} {clock : Nat} {m : List (κ × α)} (hm : MapO vr (.map es clock) m) {k : κ} (hn : mget m k = none) {x : α} {v : Value} (hv : vr x v) : MapO vr (.map (es.push { key := KeyV.v k, val := v, born := clock }) (clock + 1)) (mput m k x) := by
  have hnd := mput_nodup m k x hm.nodup
  obtain ⟨es', clock', he, hlen, hat, hborn, huniq⟩ := hm.ex
  cases he
  refine ⟨⟨_, _, rfl, ?_, ?_, ?_, ?_⟩, hnd⟩
  · rw [mput, hn]; simp [hlen]
  · intro i hi
    have em : mput m k x = m ++ [(k, x)] := by rw [mput, hn]; rfl
    rw [Array.getElem?_push]
    by_cases h2 : i = es.size
    · subst h2
      refine ⟨_, if_pos rfl, ?_, ?_⟩
      · simp [em, hlen]
      · simp [em, hlen]; exact hv
    · have hi' : i < m.length := by simp [em] at hi; omega
      obtain ⟨e, q1, q2, q3⟩ := hat i hi'
      refine ⟨e, by rw [if_neg h2]; exact q1, ?_, ?_⟩
      · simp only [em]; rw [List.getElem_append_left hi']; exact q2
      · simp only [em]; rw [List.getElem_append_left hi']; exact q3
  · intro i e he
    rw [Array.getElem?_push] at he
    split at he
    · cases he; simp
    · have := hborn i e he; omega
  · intro i j e e' he he' hb
    rw [Array.getElem?_push] at he he'
    split at he
    · split at he'
      · omega
      · cases he; have := hborn j e' he'; simp at hb; omega
    · split at he'
      · cases he'; have := hborn i e he; simp at hb; omega
      · exact huniq i j e e' he he' hb
theorem MapO.modify {es : Array MapEntry} {clock : Nat} {m : List (κ × α)} (hm : MapO vr (.map es clock) m) {k : κ} {x0 x : α} {v : Value} (hv : vr x v) {j : Nat} (a : j < m.length) (b : m[j]? = some (k, x0)) (f : mget m k = some x0) : MapO vr (.map (es.modify j fun e => { e with key := KeyV.v k, val := v }) clock) (mput m k x) := by
  have hnd := mput_nodup m k x hm.nodup
  obtain ⟨es', clock', he, hlen, hat, hborn, huniq⟩ := hm.ex
  cases he
  obtain ⟨e, hj, hkey0, _⟩ := hat j a
  have hkey : e.key = KeyV.v k := by
    rw [hkey0]
    have := (List.getElem?_eq_some_iff.1 b).2
    rw [this]
  have em : mput m k x = m.map (fun p => if p.1 = k then (k, x) else p) := by rw [mput, f]; rfl
  refine ⟨⟨_, _, rfl, ?_, ?_, ?_, ?_⟩, hnd⟩
  · rw [em]; simp [hlen]
  · intro i hi
    have hi' : i < m.length := by rw [em] at hi; simpa using hi
    obtain ⟨e1, q1, q2, q3⟩ := hat i hi'
    rw [Array.getElem?_modify]
    simp only [em, List.getElem_map]
    by_cases h2 : j = i
    · subst h2
      rw [if_pos rfl, q1]
      have hmk : m[j].1 = k := by rw [(List.getElem?_eq_some_iff.1 b).2]
      exact ⟨_, rfl, by simp [hmk], by simp [hmk]; exact hv⟩
    · rw [if_neg h2]
      have hmk : m[i].1 ≠ k := by
        intro he
        have hnd2 := hm.nodup
        have hjk : m[j].1 = k := by rw [(List.getElem?_eq_some_iff.1 b).2]
        have hpw := List.pairwise_iff_getElem.1 hnd2
        rcases Nat.lt_trichotomy i j with hl | hl | hl
        · exact hpw i j (by simpa using hi') (by simpa using a) hl (by simp [he, hjk])
        · exact h2 hl.symm
        · exact hpw j i (by simpa using a) (by simpa using hi') hl (by simp [he, hjk])
      exact ⟨e1, q1, by simp [hmk, q2], by simp [hmk, q3]⟩
  · intro i e' he
    rw [Array.getElem?_modify] at he
    split at he
    · next h2 => subst h2; rw [hj] at he; simp at he; subst he; have := hborn j e hj; simpa using this
    · exact hborn i e' he
  · intro i i' e1 e2 h1 h2 hb
    have q : ∀ (i : Nat) (e' : MapEntry), (es.modify j fun e => { e with key := KeyV.v k, val := v })[i]? = some e' → ∃ e0, es[i]? = some e0 ∧ e0.born = e'.born := by
      intro i e' he
      rw [Array.getElem?_modify] at he
      split at he
      · next h2 => subst h2; rw [hj] at he; simp at he; subst he; exact ⟨e, hj, rfl⟩
      · exact ⟨e', he, rfl⟩
    obtain ⟨f1, g1, g2⟩ := q i e1 h1
    obtain ⟨f2, g3, g4⟩ := q i' e2 h2
    exact huniq i i' f1 f2 g1 g3 (by omega)
/-- What a type of keys answers at P (no kind that findNow knows). -/
structure KeyRun (P : Program) (kt : TypeId) (κ : Type) [DecidableEq κ] [KeyV κ] (d : TypeDesc) : Prop where
  desc : P.underlying kt = some d
  no : ∀ a b : Value, Instr.sameNow d a b = none
  check : ∀ (em : Bool) (k : κ) (w : World), (Instr.checkKey em 10000 kt (KeyV.v k)).run P w = .ok () w
  eq : ∀ (a b : κ) (w : World), (Op.equal kt (KeyV.v a) (KeyV.v b)).run P w = .ok (decide (a = b)) w
  bits : ∀ a : κ, Instr.sameBits 10000 (KeyV.v a) (KeyV.v a) = true
variable {P : Program} {T kt et : TypeId} {d : TypeDesc} {w : World}
theorem findAsking_spec (K : KeyRun P kt κ d) (vr : α → Value → Prop) (k : κ) : ∀ (es : List MapEntry) (m : List (κ × α)) (i : Nat), es.length = m.length → (∀ j (h : j < m.length), ∃ e, es[j]? = some e ∧ e.key = KeyV.v m[j].1 ∧ vr m[j].2 e.val) →
    (mget m k = none ∧ ∀ w, (Instr.findAsking kt (KeyV.v k) es i).run P w = .ok none w) ∨
    ∃ j x e, j < m.length ∧ m[j]? = some (k, x) ∧ es[j]? = some e ∧ vr x e.val ∧ mget m k = some x ∧ ∀ w, (Instr.findAsking kt (KeyV.v k) es i).run P w = .ok (some (i + j, e.val)) w
  | [], [], i, _, _ => .inl ⟨rfl, fun w => rfl⟩
  | [], p :: m, i, hl, _ => by simp at hl
  | e :: es, [], i, hl, _ => by simp at hl
  | e :: es, p :: m, i, hl, h => by
    obtain ⟨e0, h0, hk, hv⟩ := h 0 (by simp)
    simp at h0 hk hv
    subst h0
    have hrun : ∀ w, (Instr.findAsking kt (KeyV.v k) (e :: es) i).run P w = if k = p.1 then .ok (some (i, e.val)) w else (Instr.findAsking kt (KeyV.v k) es (i + 1)).run P w := by
      intro w
      rw [Instr.findAsking, Sem.run_bind, hk, K.eq k p.1 w]
      by_cases hkk : k = p.1 <;> simp [hkk, Result.andThen]
    by_cases hkk : k = p.1
    · subst hkk
      right
      exact ⟨0, p.2, e, by simp, by simp, by simp, hv, by rw [mget_cons, if_pos rfl], fun w => by rw [hrun, if_pos rfl]; simp⟩
    · rcases findAsking_spec K vr k es m (i + 1) (by simpa using hl) (fun j hj => by
        obtain ⟨e', q⟩ := h (j + 1) (by simp; omega)
        exact ⟨e', by simpa using q⟩) with ⟨a, b⟩ | ⟨j, x, e', a, b, c, d', f, g⟩
      · exact .inl ⟨by rw [mget_cons, if_neg (fun e => hkk e.symm)]; exact a, fun w => by rw [hrun, if_neg hkk]; exact b w⟩
      · refine .inr ⟨j + 1, x, e', by simp; omega, by simpa using b, by simpa using c, d', by rw [mget_cons, if_neg (fun e => hkk e.symm)]; exact f, fun w => ?_⟩
        rw [hrun, if_neg hkk, g w, show i + (j + 1) = i + 1 + j by omega]
theorem findKey_spec (K : KeyRun P kt κ d) {es : Array MapEntry} {clock : Nat} {m : List (κ × α)} (hm : MapO vr (.map es clock) m) (k : κ) :
    (mget m k = none ∧ ∀ w, (Instr.findKey kt (KeyV.v k) es.toList).run P w = .ok none w) ∨
    ∃ j x e, j < m.length ∧ m[j]? = some (k, x) ∧ es[j]? = some e ∧ vr x e.val ∧ mget m k = some x ∧ ∀ w, (Instr.findKey kt (KeyV.v k) es.toList).run P w = .ok (some (j, e.val)) w := by
  obtain ⟨es', clock', he, hlen, hat, hborn, huniq⟩ := hm.ex
  cases he
  have hf := findAsking_spec K vr k es.toList m 0 (by simpa using hlen) (fun j hj => by obtain ⟨e, a, b⟩ := hat j hj; exact ⟨e, by simpa using a, b⟩)
  have hrun : ∀ w, (Instr.findKey kt (KeyV.v k) es.toList).run P w = (Instr.findAsking kt (KeyV.v k) es.toList 0).run P w := by
    intro w
    unfold Instr.findKey
    rw [Sem.run_bind, run_underlying K.desc]
    simp only [Result.andThen]
    cases hl : es.toList with
    | nil => simp [Instr.findNow, Instr.findAsking]
    | cons e l => simp [Instr.findNow, K.no]
  rcases hf with ⟨a, b⟩ | ⟨j, x, e, a, b, c, d', f, g⟩
  · exact .inl ⟨a, fun w => by rw [hrun]; exact b w⟩
  · exact .inr ⟨j, x, e, a, b, by simpa using c, d', f, fun w => by rw [hrun, g w, Nat.zero_add]⟩
theorem lookupQ (K : KeyRun P kt κ d) (ht : P.underlying T = some (.map kt et)) {r : Nat} {o : Obj} (hr : w.heap[r]? = some o) {m : List (κ × α)} (hm : MapO vr o m) (k : κ) {z : Value} (hz : (zeroValue et).run P w = .ok z w) :
    (∃ x v, mget m k = some x ∧ vr x v ∧ (Instr.lookup T (.map (some r)) (KeyV.v k) false).run P w = .ok v w) ∨
    (mget m k = none ∧ (Instr.lookup T (.map (some r)) (KeyV.v k) false).run P w = .ok z w) := by
  obtain ⟨es, clock, rfl, hlen, hat, _, _⟩ := hm.ex
  have hg : (getObj r).run P w = .ok (.map es clock) w := by simp only [getObj, Sem.run, hr]
  rcases findKey_spec K hm k with ⟨a, b⟩ | ⟨j, x, e, a, b, c, d', f, g⟩
  · right
    refine ⟨a, ?_⟩
    unfold Instr.lookup
    simp only [Sem.run_bind, run_underlying ht, Result.andThen, hg, K.check, b, Sem.run_pure, hz]
    rfl
  · left
    refine ⟨x, e.val, f, d', ?_⟩
    unfold Instr.lookup
    simp only [Sem.run_bind, run_underlying ht, Result.andThen, hg, K.check, g, Sem.run_pure]
    rfl
theorem setMap_twice (w : World) (r : Nat) (o o' : Obj) : setMap (setMap w r o) r o' = setMap w r o' := by
  simp only [setMap]
  rw [Array.setIfInBounds_setIfInBounds]
theorem find_born {es : Array MapEntry} (h : ∀ (i j : Nat) (e e' : MapEntry), es[i]? = some e → es[j]? = some e' → e.born = e'.born → i = j) {j : Nat} {e : MapEntry} (hj : es[j]? = some e) : es.findIdx? (fun x => (x.born : Int) == (e.born : Int)) = some j := by
  obtain ⟨hl, rfl⟩ := Array.getElem?_eq_some_iff.1 hj
  rw [Array.findIdx?_eq_some_iff_getElem]
  refine ⟨hl, by simp, fun i hi => ?_⟩
  have hil : i < es.size := by omega
  have hne : es[i].born ≠ es[j].born := fun hc => by
    have := h i j _ _ (Array.getElem?_eq_getElem hil) (Array.getElem?_eq_getElem hl) hc
    omega
  first | (simp; omega) | (intro hc; simp at hc; omega)
/-- What '++' (or 'op=') on an entry does: the entry, then the store into it. -/
theorem entryQ (K : KeyRun P kt κ d) (ht : P.underlying T = some (.map kt et)) {r : Nat} {o : Obj} (hr : w.heap[r]? = some o) {m : List (κ × α)} (hm : MapO vr o m) (k : κ) {z : Value} {x0 x : α} {v : Value} (hz : ∀ w, (zeroValue et).run P w = .ok z w) (hv0 : vr x0 z) (hv : vr x v) :
    ∃ (o1 o2 : Obj) (st : Nat) (v1 : Value), (∀ W : World, W.heap[r]? = w.heap[r]? → (Instr.mapEntry T (.map (some r)) (KeyV.v k)).run P W = .ok (.tuple #[v1, .int .i64 st]) (setMap W r o1)) ∧ MapO vr o1 (mput m k ((mget m k).getD x0)) ∧
      (∀ W : World, W.heap[r]? = some o1 → (Instr.entryStore T (.map (some r)) (.int .i64 st) v).run P W = .ok () (setMap W r o2)) ∧ MapO vr o2 (mput m k x) := by
  obtain ⟨es, clock, rfl, hlen, hat, hborn, huniq⟩ := hm.ex
  have hg : ∀ W : World, W.heap[r]? = w.heap[r]? → (getObj r).run P W = .ok (.map es clock) W := fun W h => by simp only [getObj, Sem.run, h.trans hr]
  have hs : ∀ (W : World) (es' : Array MapEntry) (c' : Nat) (o'' : Obj), W.heap[r]? = some (.map es' c') → (setObj r o'').run P W = .ok () (setMap W r o'') := fun W es' c' o'' h => by simp only [setObj, Sem.run, h, setMap]
  have ha : ∀ (W : World) (n : Nat), (asInt (.int .i64 (n : Int))).run P W = .ok (n : Int) W := fun W n => by simp [asInt, asIntOf, Result.andThen]
  rcases findKey_spec K hm k with ⟨a, b⟩ | ⟨j, x1, e, a, b, c, d', f, g⟩
  · have h1 : MapO vr (.map (es.push { key := KeyV.v k, val := z, born := clock }) (clock + 1)) (mput m k x0) := hm.push a hv0
    refine ⟨_, _, clock, z, fun W hW => ?_, by rw [a]; exact h1, fun W hW => ?_, hm.push a hv⟩
    · unfold Instr.mapEntry
      simp only [Sem.run_bind, run_underlying ht, Result.andThen, hg W hW, K.check, b, hz, Sem.run_pure, hs W _ _ _ (hW.trans hr), goInt_eq]
    · have hg2 : (getObj r).run P W = .ok (.map (es.push { key := KeyV.v k, val := z, born := clock }) (clock + 1)) W := by simp only [getObj, Sem.run, hW]
      have hb := h1.ex
      obtain ⟨es', clock', he, _, _, _, hu2⟩ := hb
      cases he
      have hfi : (es.push { key := KeyV.v k, val := z, born := clock }).findIdx? (fun x => (x.born : Int) == (clock : Int)) = some es.size := find_born hu2 (e := { key := KeyV.v k, val := z, born := clock }) (by simp)
      have hmod : (es.push { key := KeyV.v k, val := z, born := clock }).modify es.size (fun e => { e with val := v }) = es.push { key := KeyV.v k, val := v, born := clock } := by
        apply Array.ext
        · simp
        · intro i h1 h2
          rw [Array.getElem_modify]
          by_cases hi : es.size = i
          · subst hi; simp
          · rw [if_neg hi]
            have : i < es.size := by simp at h2; omega
            rw [Array.getElem_push_lt this, Array.getElem_push_lt this]
      unfold Instr.entryStore
      simp only [Sem.run_bind, Result.andThen, hg2, ha, Sem.run_pure, hfi, hs W _ _ _ hW, hmod]
  · have hbits : ((es[j]?).map (·.key)).getD (KeyV.v k) = KeyV.v k := by
      obtain ⟨e', q1, q2, _⟩ := hat j a
      rw [q1]
      have := (List.getElem?_eq_some_iff.1 b).2
      simp [q2, this]
    have hb2 : ((es[j]?).map (fun x => (x.born : Int))).getD 0 = (e.born : Int) := by rw [c]; rfl
    have hsame : (es.modify j fun e => { e with key := KeyV.v k }) = es := by
      apply Array.ext
      · simp
      · intro i h1 h2
        rw [Array.getElem_modify]
        by_cases hi : j = i
        · subst hi
          obtain ⟨e', q1, q2, _⟩ := hat j a
          have q3 := (Array.getElem?_eq_some_iff.1 q1).2
          have := (List.getElem?_eq_some_iff.1 b).2
          rw [this] at q2
          dsimp only at q2
          rw [if_pos rfl, q3, ← q2]
        · rw [if_neg hi]
    refine ⟨.map es clock, _, e.born, e.val, fun W hW => ?_, ?_, fun W hW => ?_, hm.modify hv a b f⟩
    · unfold Instr.mapEntry
      simp only [Sem.run_bind, run_underlying ht, Result.andThen, hg W hW, K.check, g, Sem.run_pure, hbits, Instr.keyThatStays, K.bits, if_true, hs W _ _ _ (hW.trans hr), hb2, hsame, goInt_eq]
    · rw [f]
      have hmod := hm.modify (x := x1) (v := e.val) d' a b f
      have : (es.modify j fun e' => { e' with key := KeyV.v k, val := e.val }) = es := by
        apply Array.ext
        · simp
        · intro i h1 h2
          rw [Array.getElem_modify]
          by_cases hi : j = i
          · subst hi
            obtain ⟨e', q1, q2, _⟩ := hat j a
            have q3 := (Array.getElem?_eq_some_iff.1 q1).2
            rw [c] at q1
            cases q1
            have := (List.getElem?_eq_some_iff.1 b).2
            rw [this] at q2
            dsimp only at q2
            rw [if_pos rfl, q3, ← q2]
          · rw [if_neg hi]
      rw [this] at hmod
      exact hmod
    · have hg2 : (getObj r).run P W = .ok (.map es clock) W := by simp only [getObj, Sem.run, hW]
      have hmod : (es.modify j fun e => { e with val := v }) = es.modify j fun e => { e with key := KeyV.v k, val := v } := by
        apply Array.ext
        · simp
        · intro i h1 h2
          rw [Array.getElem_modify, Array.getElem_modify]
          by_cases hi : j = i
          · subst hi
            obtain ⟨e', q1, q2, _⟩ := hat j a
            have q3 := (Array.getElem?_eq_some_iff.1 q1).2
            have := (List.getElem?_eq_some_iff.1 b).2
            rw [this] at q2
            dsimp only at q2
            rw [if_pos rfl, if_pos rfl, q3, ← q2]
          · rw [if_neg hi, if_neg hi]
      unfold Instr.entryStore
      simp only [Sem.run_bind, Result.andThen, hg2, ha, Sem.run_pure, find_born huniq c, hs W _ _ _ hW, hmod]
end
end Go.Proofs.YtngogjookldidaaGreatDoor

namespace Go.Proofs.YtngogjookldidaaGreatDoor
open Go.RowKit
set_option linter.unusedVariables false
set_option linter.unusedSimpArgs false
instance : KeyV Pr where v := fun p => .agg #[.int .i64 p.1, .int .i64 p.2]
theorem pairEq (w : World) (x y : Pr) : (Op.equal 43 (KeyV.v x) (KeyV.v y)).run Tryz.prog w = .ok (decide (x = y)) w := by
  obtain ⟨x1, x2⟩ := x
  obtain ⟨y1, y2⟩ := y
  have hu := Tryz.underlying43
  have hi := Tryz.underlying3
  show (Op.equalIn 10000 _ (.agg _) (.agg _)).run Tryz.prog w = _
  rw [run_equalIn_agg w 9999 _ _ _ (by simp only [Program.fieldsOf, hu]) (by kernel_rfl)]
  simp only [Program.fieldsOf, hu]
  by_cases h1 : x1 = y1 <;> by_cases h2 : x2 = y2 <;> simp [Op.eqFields, part, Program.cellsOf, h1, h2, run_equalIn_int w _ 3 _ _ _ _ hi, Result.andThen]
theorem pairCheck (em : Bool) (p : Pr) (w : World) : (Instr.checkKey em 10000 43 (KeyV.v p)).run Tryz.prog w = .ok () w := by
  kernel_rfl
theorem pairBits (p : Pr) : Instr.sameBits 10000 (KeyV.v p) (KeyV.v p) = true := by
  simp [KeyV.v, Instr.sameBits]
theorem pairK : ∃ d, KeyRun Tryz.prog 43 Pr d := ⟨_, ⟨Tryz.underlying43, fun a b => rfl, pairCheck, fun a b w => pairEq w a b, pairBits⟩⟩

/-- A map of counts by pairs, by what it answers. -/
def MapP (w : World) (r : Nat) (f : Pr → Option Int) : Prop := ∃ o M, w.heap[r]? = some o ∧ MapO vI o M ∧ ∀ k, mget M k = f k
def updP (f : Pr → Option Int) (k : Pr) (x : Int) : Pr → Option Int := fun k' => if k' = k then some x else f k'
section
variable {w w' : World} {r : Nat} {f : Pr → Option Int}
theorem MapP.lt (h : MapP w r f) : r < w.heap.size := by obtain ⟨o, M, h1, _⟩ := h; exact (Array.getElem?_eq_some_iff.1 h1).1
theorem MapP.kept (h : MapP w r f) (hb : w'.heap[r]? = w.heap[r]?) : MapP w' r f := by obtain ⟨o, M, h1, h2⟩ := h; exact ⟨o, M, hb.trans h1, h2⟩
theorem MapP.callB (h : MapP w r f) (hb : Below w.heap.size w w') : MapP w' r f := h.kept (hb.block r h.lt)
theorem MapP.grown (h : MapP w r f) {g : Nat} (hg : w.grownBy w' (some g)) (hne : r ≠ g) : MapP w' r f := h.kept (hg.block r h.lt (fun e => hne (by cases e; rfl)))
theorem MapP.new (hb : w.heap[r]? = some (.map #[] 0)) : MapP w r (fun _ => none) := ⟨_, [], hb, MapO.empty, fun _ => rfl⟩
theorem MapP.look (h : MapP w r f) (k : Pr) (W : World) (hW : W.heap[r]? = w.heap[r]?) :
    (Instr.lookup 38 (.map (some r)) (.agg #[.int .i64 k.1, .int .i64 k.2]) false).run Tryz.prog W = .ok (.int .i64 ((f k).getD 0)) W := by
  obtain ⟨o, M, h1, h2, h3⟩ := h
  obtain ⟨d, K⟩ := pairK
  rcases lookupQ (w := W) K Tryz.underlying38 (hW.trans h1) h2 k (zeroI W) with ⟨x, v, q1, q2, q3⟩ | ⟨q1, q3⟩
  · cases q2; rw [← h3, q1]; exact q3
  · rw [← h3, q1]; exact q3
/-- '++' on an entry. -/
theorem MapP.inc (h : MapP w r f) (k : Pr) (x : Int) : ∃ (o1 o2 : Obj) (st : Nat) (v1 : Value),
    (∀ W : World, W.heap[r]? = w.heap[r]? → (Instr.mapEntry 38 (.map (some r)) (.agg #[.int .i64 k.1, .int .i64 k.2])).run Tryz.prog W = .ok (.tuple #[v1, .int .i64 st]) (setMap W r o1)) ∧
    (∀ W : World, W.heap[r]? = some o1 → (Instr.lookup 38 (.map (some r)) (.agg #[.int .i64 k.1, .int .i64 k.2]) false).run Tryz.prog W = .ok (.int .i64 ((f k).getD 0)) W) ∧
    (∀ W : World, W.heap[r]? = some o1 → (Instr.entryStore 38 (.map (some r)) (.int .i64 st) (.int .i64 x)).run Tryz.prog W = .ok () (setMap W r o2)) ∧
    (∀ W : World, W.heap[r]? = some o2 → MapP W r (updP f k x)) := by
  obtain ⟨o, M, h1, h2, h3⟩ := h
  obtain ⟨d, K⟩ := pairK
  obtain ⟨o1, o2, st, v1, a1, a2, a3, a4⟩ := entryQ K Tryz.underlying38 h1 h2 k (x0 := 0) (x := x) (z := .int .i64 0) (v := .int .i64 x) zeroI rfl rfl
  have hP1 : ∀ W : World, W.heap[r]? = some o1 → MapP W r (updP f k ((f k).getD 0)) := fun W hW => ⟨_, _, hW, a2, fun k' => by rw [mget_mput, h3, h3]; rfl⟩
  refine ⟨o1, o2, st, v1, a1, fun W hW => ?_, a3, fun W hW => ⟨_, _, hW, a4, fun k' => by rw [mget_mput, h3]; rfl⟩⟩
  have := (hP1 W hW).look k W rfl
  have e : updP f k ((f k).getD 0) k = some ((f k).getD 0) := by unfold updP; rw [if_pos rfl]
  rw [e] at this
  exact this
end
/-- Block r goes over the map of block b, which answers as f; the keys of S have been met. -/
def RngP (w : World) (b r : Nat) (f : Pr → Option Int) (S : List Pr) : Prop := ∃ M, RngW vI w b r M S ∧ ∀ k, mget M k = f k
section
variable {w w' : World} {b r : Nat} {f : Pr → Option Int} {S : List Pr}
theorem RngP.lt (h : RngP w b r f S) : b < w.heap.size ∧ r < w.heap.size ∧ r ≠ b := by obtain ⟨M, h, _⟩ := h; exact h.lt
theorem RngP.kept (h : RngP w b r f S) (hb : w'.heap[b]? = w.heap[b]?) (hr : w'.heap[r]? = w.heap[r]?) : RngP w' b r f S := by obtain ⟨M, h, e⟩ := h; exact ⟨M, h.kept hb hr, e⟩
theorem RngP.callB (h : RngP w b r f S) (hb : Below w.heap.size w w') : RngP w' b r f S := by obtain ⟨M, h, e⟩ := h; exact ⟨M, h.callB hb, e⟩
theorem RngP.left (h : RngP w b r f S) (hb : w'.heap[b]? = w.heap[b]?) (hr : w'.heap[r]? = w.heap[r]?) : w'.rangeLeft b r = w.rangeLeft b r := by
  obtain ⟨M, h, _⟩ := h; rw [h.left, (h.kept hb hr).left]
variable {ops : Array Oper} {rest : List Oper} {o : Oper} {a : Act} {Q : Exit → Act → World → Prop}
theorem wpList_range_P (hg : o.guard = none) (m : Operand) (hop : o.op = Op.range 38 m) (hm : a.eval m = .map (some b)) (h : MapP w b f)
    (hK : ∀ w', RngP w' b w.heap.size f [] → Below w.heap.size w w' → w'.heap.size = w.heap.size + 1 → wpList Tryz.prog ops Q rest (a.put o.dst (.pointer (some ⟨w.heap.size, 0, none⟩))) w') : wpList Tryz.prog ops Q (o :: rest) a w := by
  refine wpList_plain hg fun K' hK' => ?_
  obtain ⟨ob, M, h1, h2, h3⟩ := h
  obtain ⟨o', hrun, hr⟩ := RngW.start (P := Tryz.prog) Tryz.underlying38 h1 h2
  unfold Oper.wp
  simp [execOp, hop, hm, hrun, Result.andThen]
  exact hK' _ _ (hK _ ⟨M, hr, h3⟩ ((Below.refl _ _).alloc (Nat.le_refl _) _) (by simp))
theorem wpList_next_P (hg : o.guard = none) (it : Operand) (hop : o.op = Op.next it false) (hit : a.eval it = .pointer (some ⟨r, 0, none⟩)) (h : RngP w b r f S)
    (hDone : (∀ k x, f k = some x → k ∈ S) → wpList Tryz.prog ops Q rest (a.put o.dst (.tuple #[.bool false])) w)
    (hMore : ∀ (k1 k2 x : Int) (w' : World), f (k1, k2) = some x → (k1, k2) ∉ S → RngP w' b r f ((k1, k2) :: S) → w.grownBy w' (some r) → w'.heap.size = w.heap.size → w'.rangeLeft b r < w.rangeLeft b r → (Instr.entry (.pointer (some ⟨r, 0, none⟩))).run Tryz.prog w' = .ok (.tuple #[.agg #[.int .i64 k1, .int .i64 k2], .int .i64 x]) w' →
      wpList Tryz.prog ops Q rest (a.put o.dst (.tuple #[.bool true, .agg #[.int .i64 k1, .int .i64 k2], .int .i64 x])) w') : wpList Tryz.prog ops Q (o :: rest) a w := by
  refine wpList_plain hg fun K' hK' => ?_
  obtain ⟨M, h, e⟩ := h
  have hnd : (M.map (·.1)).Nodup := by obtain ⟨es, clock, since, seen, c0, hb, hm, _⟩ := h; exact hm.nodup
  unfold Oper.wp
  rcases h.next (P := Tryz.prog) o.type with ⟨h0, hrun⟩ | ⟨k, x, v, w', h1, h2, h3, hrun, h4, h5, h6, h7, h8⟩
  · simp [execOp, hop, hit, hrun, Result.andThen]
    exact hK' _ _ (hDone fun k x hk => h0 k x (mem_of_mget (by rw [e]; exact hk)))
  · cases h3
    obtain ⟨k1, k2⟩ := k
    simp [execOp, hop, hit, hrun, Result.andThen]
    exact hK' _ _ (hMore k1 k2 x w' (by rw [← e]; exact mget_of_mem hnd h1) h2 ⟨M, h4, e⟩ h5 h6 h7 h8)
end
end Go.Proofs.YtngogjookldidaaGreatDoor

namespace Go.Proofs.YtngogjookldidaaGreatDoor
open Go.RowKit
set_option linter.unusedVariables false
set_option linter.unusedSimpArgs false
theorem SlV.listsC {α : Type} [Rep α] {φ : Phi} {a : Option Addr} {cap : Nat} {gs : List (List α)} (h : SlV φ a cap gs) {k n : Nat} (hn : Hid (gs.length = n)) (hk : k < n) :
    ∃ b off, a = some ⟨b, off, none⟩ ∧ ∀ k, k < n → ∃ ag cg, SlV φ ag cg (gs.getD k []) ∧ ∀ w, Fz φ w → b < w.heap.size ∧ w.cell? ⟨b, off + k, none⟩ = some (.slice ag (gs.getD k []).length cg) := by
  obtain ⟨b, off, ha, hc⟩ := h.cellsD [] hn hk
  refine ⟨b, off, ha, fun k hk => ?_⟩
  obtain ⟨cs, ⟨ag, cg, rfl, hs⟩, hj⟩ := hc k hk
  refine ⟨ag, cg, hs, fun w hw => ?_⟩
  have j0 := hj 0 (by simp)
  simp [Rep.size] at j0
  exact ⟨hw.lt j0, hw.cell j0⟩
theorem Fz.grownC {φ : Phi} {w w' : World} {r : Nat} (h : Fz φ w) (hr : φ r = none) (hg : w.grownBy w' (some r)) : Fz φ w' := fun b o hb =>
  (hg.block b (h.mlt hb) (fun e => by cases e; rw [hr] at hb; cases hb)).trans (h b o hb)
theorem grown_setC (w : World) (g off : Nat) (u : Value) : w.grownBy (w.setCell ⟨g, off, none⟩ u) (some g) := ⟨rfl, rfl, rfl, by simp [World.setCell], fun k _ hk => Below.heap_setCell _ _ _ _ (by intro e; exact hk (by rw [e]))⟩
/-- How often each pair is in a list, as a map answers. -/
def cmF (L : List Pr) : Pr → Option Int := fun p => cnF (cntP (fun q => q = p) L)
theorem cmF_step (L : List Pr) (p : Pr) : updP (cmF L) p ((cntP (fun q => q = p) L : Int) + 1) = cmF (L ++ [p]) := by
  funext k
  unfold updP cmF
  rw [cntP_snoc]
  by_cases h : k = p
  · subst h; rw [if_pos rfl, if_pos rfl, cnF_succ]
  · rw [if_neg h, if_neg (fun e => h e.symm)]; rfl
/-- The map in the making, and a box beside it. -/
structure CmS (w0 : World) (φ : Phi) (r : Nat) (f : Pr → Option Int) (wr : World) : Prop where
  bel : Below w0.heap.size w0 wr
  m : MapP wr r f
  fz : Fz φ wr
  lo : w0.heap.size ≤ r
  nr : φ r = none
structure CmB (w0 : World) (φ : Phi) (r : Nat) (f : Pr → Option Int) (b : Nat) (cs : Array Value) (wr : World) : Prop where
  st : CmS w0 φ r f wr
  k : Blk wr b cs 43
  ne : r ≠ b
  nb : φ b = none
  lb : w0.heap.size ≤ b
section
variable {w0 wr w' : World} {φ : Phi} {r b : Nat} {f f' : Pr → Option Int} {cs : Array Value}
theorem CmS.callB (h : CmS w0 φ r f wr) (hb : Below wr.heap.size wr w') : CmS w0 φ r f w' := ⟨h.bel.trans (hb.mono h.bel.size), h.m.callB hb, h.fz.below hb, h.lo, h.nr⟩
theorem CmS.setM (h : CmS w0 φ r f wr) (o : Obj) (hm : MapP (setMap wr r o) r f') : CmS w0 φ r f' (setMap wr r o) :=
  ⟨Below_grown h.bel (setMap_grown wr r o) h.lo, hm, h.fz.grownC h.nr (setMap_grown wr r o), h.lo, h.nr⟩
theorem CmB.callB (h : CmB w0 φ r f b cs wr) (hb : Below wr.heap.size wr w') : CmB w0 φ r f b cs w' := ⟨h.st.callB hb, h.k.callB hb, h.ne, h.nb, h.lb⟩
theorem CmB.alloc (h : CmB w0 φ r f b cs wr) (o : Obj) : CmB w0 φ r f b cs (wr.alloc o) := h.callB ((Below.refl _ _).alloc (Nat.le_refl _) o)
theorem CmB.set (h : CmB w0 φ r f b cs wr) (off : Nat) (u : Value) : CmB w0 φ r f b (cs.setIfInBounds off u) (wr.setCell ⟨b, off, none⟩ u) :=
  ⟨⟨Below_grown h.st.bel (grown_setC _ _ _ _) h.lb, h.st.m.grown (grown_setC _ _ _ _) h.ne, h.st.fz.grownC h.nb (grown_setC _ _ _ _), h.st.lo, h.st.nr⟩, h.k.set off u, h.ne, h.nb, h.lb⟩
theorem CmS.box (h : CmS w0 φ r f wr) (cs : Array Value) : CmB w0 φ r f wr.heap.size cs (wr.alloc (.cells cs 43)) :=
  ⟨h.callB ((Below.refl _ _).alloc (Nat.le_refl _) _), Blk.new wr cs _, Nat.ne_of_lt h.m.lt, h.fz.new_none (Nat.le_refl _), h.bel.size⟩
end
set_option maxRecDepth 100000 in
set_option maxHeartbeats 4000000 in
theorem common_any {w : World} {ac : Option Addr} {cc nc : Nat} {cs : List Cdg} {φ : Phi} (hφ : Fz φ w) (sc : SlV φ ac cc cs) (hnc : Hid (cs.length = nc)) (hn2 : nc ≤ 20000) (a b : Int) :
    Calls Tryz.prog 12 #[.slice ac nc cc, .int .i64 a, .int .i64 b] w (fun e w' => ∃ r, e = .returned (.map (some r)) ∧ MapP w' r (cmF (prsL (grpK cs nc) a b)) ∧ Below w.heap.size w w' ∧ w.heap.size ≤ r) := by
  have hmm := @run_makeMap Tryz.prog
  have hF1 := Lib.hid (hφ.below ((Below.refl w.heap.size w).alloc (Nat.le_refl _) (.map #[] 0)))
  have hS1 : Hid (CmS w φ w.heap.size (cmF (prsL [] a b)) (w.alloc (.map #[] 0))) := Lib.hid ⟨(Below.refl _ _).alloc (Nat.le_refl _) _, MapP.new (heap_alloc_new w _), hF1.out, Nat.le_refl _, hφ.new_none (Nat.le_refl _)⟩
  go_enter Tryz.func12, Tryz.ntmps12
  go_wp2_with fail
  refine (cases_any hF1.out sc hnc hn2).mono ?_
  rintro e w2 ⟨ag, cg, φ2, rfl, hi2, sg⟩
  clear hmm
  have hS2 : Hid (CmS w φ2 w.heap.size (cmF (prsL [] a b)) w2) := Lib.hid (by
    have h := hS1.out.callB hi2.bel
    exact ⟨h.bel, h.m, hi2.fz, h.lo, by rw [hi2.new _ hS1.out.m.lt]; exact h.nr⟩)
  have hgo := Lib.hid (grpK_ok cs nc (by rw [hnc.out]; omega))
  obtain ⟨gs, hgs⟩ : ∃ gs, Hid (grpK cs nc = gs) := ⟨_, Lib.hid rfl⟩
  rw [hgs.out] at sg hgo ⊢
  obtain ⟨ng, hng⟩ : ∃ ng, Hid (gs.length = ng) := ⟨_, Lib.hid rfl⟩
  have hng2 : ng ≤ 20000 := by have := hgo.out.2.1; rw [hng.out] at this; omega
  rw [hng.out]
  clear hS1 hF1 hi2
  generalize w.heap.size = r at *
  go_wp2
  go_loopw [17] (fun i wr => ∃ k : Nat, k ≤ ng ∧ i = .int .i64 k ∧ Hid (CmS w φ2 r (cmF (prsL (gs.take k) a b)) wr)) (fun i _ => ng - (intOf i).toNat)
  case atStart => exact ⟨0, Nat.zero_le _, rfl, hS2⟩
  case round =>
    clear hS2
    obtain ⟨k, hk, rfl, hS⟩ := hrel
    by_cases hlt : k < ng
    · obtain ⟨bg, off, rfl, f⟩ := sg.listsC hng hlt
      obtain ⟨ak, ck, sk, f⟩ := f k hlt
      obtain ⟨hb, c1⟩ := f wr hS.out.fz
      have htk := Lib.hid (take_snocD [] gs k ng hng.out hlt)
      have hgk := Lib.hid (hgo.out.1 (gs.getD k []) (by rw [getD_elem0 [] gs k (by rw [hng.out]; exact hlt)]; exact List.getElem_mem _))
      have hL : (prsL (gs.take k) a b).length ≤ 20000 := by have := prsL_len (gs.take k) a b; rw [List.length_take] at this; omega
      clear f
      generalize gs.getD k [] = g at *
      obtain ⟨nk, hnk⟩ : ∃ nk, Hid (g.length = nk) := ⟨_, Lib.hid rfl⟩
      have hnk2 : nk ≤ 20000 := by have := hgk.out.2.1; rw [hnk.out] at this; omega
      rw [hnk.out] at c1
      have hB : Hid (CmB w φ2 r (cmF (prsL (gs.take k) a b)) wr.heap.size #[.int .i64 (pickC a (g.take 0)), .int .i64 (pickC b (g.take 0))] (wr.alloc (.cells #[.int .i64 0, .int .i64 0] 43))) := Lib.hid (hS.out.box _)
      go_wp2
      clear c1 hb hS
      generalize (wr.alloc (.cells #[.int .i64 0, .int .i64 0] 43)) = wb at *
      generalize wr.heap.size = b10 at *
      go_loopw [24] (fun i wi => ∃ j : Nat, j ≤ nk ∧ i = .int .i64 j ∧ Hid (CmB w φ2 r (cmF (prsL (gs.take k) a b)) b10 #[.int .i64 (pickC a (g.take j)), .int .i64 (pickC b (g.take j))] wi)) (fun i _ => nk - (intOf i).toNat)
      case atStart => exact ⟨0, Nat.zero_le _, rfl, hB⟩
      case round =>
        clear hB
        rename World => wi
        obtain ⟨j, hj, rfl, hB⟩ := hrel
        by_cases hjl : j < nk
        · obtain ⟨bx, ox, rfl, fx⟩ := sk.cdgD hnk hjl
          obtain ⟨hbx, d1, d2, d3⟩ := fx j hjl wi hB.out.st.fz
          have htj := Lib.hid (take_snocD cdg0 g j nk hnk.out hjl)
          clear fx
          generalize hX : g.getD j cdg0 = X at *
          obtain ⟨x1, x2, x3⟩ := X
          dsimp only at d1 d2 d3
          have hp1 : Hid (pickC a (g.take (j + 1)) = if x2 = a then x3 else pickC a (g.take j)) := Lib.hid (by rw [htj.out, pickC_snoc])
          have hp2 : Hid (pickC b (g.take (j + 1)) = if x2 = b then x3 else pickC b (g.take j)) := Lib.hid (by rw [htj.out, pickC_snoc])
          clear hX htj
          generalize pickC a (g.take j) = p1 at *
          generalize pickC b (g.take j) = p2 at *
          have hB2 := Lib.hid (hB.out.alloc (.cells #[.int .i64 x1, .int .i64 x2, .int .i64 x3] 70))
          have hK := Lib.hid (Blk.new wi #[.int .i64 x1, .int .i64 x2, .int .i64 x3] 70)
          have hne : Hid (b10 ≠ wi.heap.size) := Lib.hid (Nat.ne_of_lt hB.out.k.lt)
          go_upto_region 9 with (fail)
          clear d1 d2 d3 hbx hB
          generalize (wi.alloc (.cells #[.int .i64 x1, .int .i64 x2, .int .i64 x3] 70)) = wj at *
          generalize wi.heap.size = bj at *
          have k1 : wj.cell? ⟨bj, 1, none⟩ = some (.int .i64 x2) := hK.out.cell 1
          have k2 : wj.cell? ⟨bj, 2, none⟩ = some (.int .i64 x3) := hK.out.cell 2
          have m1 : (wj.setCell ⟨b10, 0, none⟩ (.int .i64 x3)).cell? ⟨bj, 1, none⟩ = some (.int .i64 x2) := (far (Below.heap_setCell _ _ _ _ hne.out.symm)).1.trans k1
          have m2 : (wj.setCell ⟨b10, 0, none⟩ (.int .i64 x3)).cell? ⟨bj, 2, none⟩ = some (.int .i64 x3) := (far (Below.heap_setCell _ _ _ _ hne.out.symm)).1.trans k2
          have y0 : wj.cell? ⟨b10, 0, none⟩ = some (.int .i64 p1) := hB2.out.k.cell 0
          have y1 : wj.cell? ⟨b10, 1, none⟩ = some (.int .i64 p2) := hB2.out.k.cell 1
          have z0 := hB2.out.k.frz 0
          have z1 := hB2.out.k.frz 1
          by_cases ha : x2 = a <;> by_cases hb : x2 = b
          · have ha2 : ((x2 : Int) == a) = true := by simp [ha]
            have hb2 : ((x2 : Int) == b) = true := by simp [hb]
            have HA := Lib.hid ha
            have HBq := Lib.hid hb
            clear ha hb
            go_wp2
            go_roundw
            case rel => exact ⟨j + 1, by omega, by go_num, by rw [hp1.out, hp2.out, if_pos HA.out, if_pos HBq.out]; exact Lib.hid ((hB2.out.set 0 (.int .i64 x3)).set 1 (.int .i64 x3))⟩
            case measure => (simp [intOf] <;> omega)
          · have ha2 : ((x2 : Int) == a) = true := by simp [ha]
            have hb2 : ((x2 : Int) == b) = false := by simp [hb]
            have HA := Lib.hid ha
            have HBq := Lib.hid hb
            clear ha hb
            go_wp2
            go_roundw
            case rel => exact ⟨j + 1, by omega, by go_num, by rw [hp1.out, hp2.out, if_pos HA.out, if_neg HBq.out]; exact Lib.hid (hB2.out.set 0 (.int .i64 x3))⟩
            case measure => (simp [intOf] <;> omega)
          · have ha2 : ((x2 : Int) == a) = false := by simp [ha]
            have hb2 : ((x2 : Int) == b) = true := by simp [hb]
            have HA := Lib.hid ha
            have HBq := Lib.hid hb
            clear ha hb
            go_wp2
            go_roundw
            case rel => exact ⟨j + 1, by omega, by go_num, by rw [hp1.out, hp2.out, if_neg HA.out, if_pos HBq.out]; exact Lib.hid (hB2.out.set 1 (.int .i64 x3))⟩
            case measure => (simp [intOf] <;> omega)
          · have ha2 : ((x2 : Int) == a) = false := by simp [ha]
            have hb2 : ((x2 : Int) == b) = false := by simp [hb]
            have HA := Lib.hid ha
            have HBq := Lib.hid hb
            clear ha hb
            go_wp2
            go_roundw
            case rel => exact ⟨j + 1, by omega, by go_num, by rw [hp1.out, hp2.out, if_neg HA.out, if_neg HBq.out]; exact hB2⟩
            case measure => (simp [intOf] <;> omega)
        · obtain rfl : j = nk := by omega
          have ex : g.take j = g := by rw [← hnk.out, List.take_length]
          rw [ex] at hB
          have hsn := Lib.hid (prsL_snoc (gs.take k) a b g)
          have hpg : Hid (pairG a b g = (pickC a g, pickC b g)) := Lib.hid rfl
          rw [hpg.out] at hsn
          clear ex hpg
          generalize pickC a g = p1 at *
          generalize pickC b g = p2 at *
          have y0 : wi.cell? ⟨b10, 0, none⟩ = some (.int .i64 p1) := hB.out.k.cell 0
          have y1 : wi.cell? ⟨b10, 1, none⟩ = some (.int .i64 p2) := hB.out.k.cell 1
          by_cases h1 : p1 = 0
          · have g1 : ((p1 : Int) != 0) = false := by simp [h1]
            have hno : Hid (prsL (gs.take (k + 1)) a b = prsL (gs.take k) a b) := Lib.hid (by rw [htk.out, hsn.out, if_neg (by simp [okP, h1]), List.append_nil])
            clear h1
            go_wp2
            go_roundw
            case rel => exact ⟨k + 1, by omega, by go_num, by rw [hno.out]; exact Lib.hid hB.out.st⟩
            case measure => (simp [intOf] <;> omega)
          · have g1 : ((p1 : Int) != 0) = true := by simp [h1]
            by_cases h2 : p2 = 0
            · have g2 : ((p2 : Int) != 0) = false := by simp [h2]
              have hno : Hid (prsL (gs.take (k + 1)) a b = prsL (gs.take k) a b) := Lib.hid (by rw [htk.out, hsn.out, if_neg (by simp [okP, h2]), List.append_nil])
              clear h1 h2
              go_wp2
              go_roundw
              case rel => exact ⟨k + 1, by omega, by go_num, by rw [hno.out]; exact Lib.hid hB.out.st⟩
              case measure => (simp [intOf] <;> omega)
            · have g2 : ((p2 : Int) != 0) = true := by simp [h2]
              have hyes : Hid (prsL (gs.take (k + 1)) a b = prsL (gs.take k) a b ++ [(p1, p2)]) := Lib.hid (by rw [htk.out, hsn.out, if_pos (by simp [okP, h1, h2])])
              clear h1 h2 hsn
              generalize prsL (gs.take k) a b = L at *
              have hstep := Lib.hid (cmF_step L (p1, p2))
              have hcl := cntP_le (fun q => q = ((p1, p2) : Pr)) L
              have hget : Hid ((cmF L (p1, p2)).getD 0 = (cntP (fun q => q = ((p1, p2) : Pr)) L : Int)) := Lib.hid (cnF_getD _)
              obtain ⟨o1, o2, st, v1, e2, e3, e4, e5⟩ := hB.out.st.m.inc (p1, p2) ((cntP (fun q => q = ((p1, p2) : Pr)) L : Int) + 1)
              have E1 := hB.out.st.m.look (p1, p2) wi.drew rfl
              have hlt9 := hB.out.st.m.lt
              have E2 := e2 wi.drew rfl
              have E3 := e3 (setMap wi.drew r o1) (setMap_same o1 hlt9)
              have E4 := e4 (setMap wi.drew r o1) (setMap_same o1 hlt9)
              rw [hget.out] at E1 E3
              dsimp only at E1 E2 E3
              have hS9 : Hid (CmS w φ2 r (cmF (L ++ [(p1, p2)])) (setMap (setMap wi.drew r o1) r o2)) := Lib.hid (by
                have q := e5 (setMap wi.drew r o2) (setMap_same o2 hlt9)
                rw [hstep.out] at q
                rw [setMap_twice]
                exact (hB.out.st.callB (w' := wi.drew) (bdrewN (Below.refl _ _) 1)).setM o2 q)
              generalize setMap (setMap wi.drew r o1) r o2 = W2 at *
              generalize setMap wi.drew r o1 = W1 at *
              generalize cntP (fun q => q = ((p1, p2) : Pr)) L = cn at *
              clear e2 e3 e4 e5 hget hstep
              go_wp2
              go_region
              go_wp2
              go_roundw
              case rel => exact ⟨k + 1, by omega, by go_num, by rw [hyes.out]; exact hS9⟩
              case measure => (simp [intOf] <;> omega)
    · obtain rfl : k = ng := by omega
      have ex : gs.take k = gs := by rw [← hng.out, List.take_length]
      rw [ex] at hS
      go_wp2
      go_ret
      exact ⟨r, rfl, by first | exact hS.out.m | (rw [hgs.out]; exact hS.out.m), hS.out.bel, hS.out.lo⟩
end Go.Proofs.YtngogjookldidaaGreatDoor

namespace Go.Proofs.YtngogjookldidaaGreatDoor
open Go.RowKit
set_option linter.unusedVariables false
set_option linter.unusedSimpArgs false
theorem lenB_oneC : LenB 999999999 := by have := len_le1 (n := 999999999) (Nat.le_refl _); unfold LenB; omega
theorem ratR_smallC {num den : Int} (hn : num.natAbs ≤ 999999999) (hd : den.natAbs ≤ 999999999) (h0 : den ≠ 0) {S T : ByteArray} {F : Int} (h : ratR ((num : Rat) / (den : Rat)) = (S, T, F)) : F = 0 ∧ S.size ≤ 10 ∧ T.size ≤ 10 := by
  rw [← rat_quot h0, ratR_eq (by omega)] at h
  generalize num.natAbs = n at *
  generalize hdd : den.natAbs = d at *
  have hd0 : 0 < d := by omega
  have g0 := gcd_dle (m := n) hd0
  have l1 := decB_len (m := n / n.gcd d) (k := (limbs (n / n.gcd d)).length) rfl
  have l2 := decB_len (m := d / n.gcd d) (k := (limbs (d / n.gcd d)).length) rfl
  have m1 := len_le1 (n := n / n.gcd d) (Nat.le_trans (Nat.div_le_self _ _) hn)
  have m2 := len_le1 (n := d / n.gcd d) (Nat.le_trans (Nat.div_le_self _ _) hd)
  have e1 : (decB (n / n.gcd d)).size ≤ 9 := by rw [decB_bl, bl_size]; exact dec_lim (Nat.lt_of_le_of_lt (Nat.le_trans (Nat.div_le_self _ _) hn) (by omega))
  have e2 : (decB (d / n.gcd d)).size ≤ 9 := by rw [decB_bl, bl_size]; exact dec_lim (Nat.lt_of_le_of_lt (Nat.le_trans (Nat.div_le_self _ _) hd) (by omega))
  rw [ratN, if_neg (by omega)] at h
  obtain ⟨hS, hTF⟩ := Prod.mk.inj h
  obtain ⟨hT, hF⟩ := Prod.mk.inj hTF
  refine ⟨hF.symm, ?_, by rw [← hT]; omega⟩
  rw [← hS]
  split
  · rw [ByteArray.size_append]; show 1 + _ ≤ 10; omega
  · omega
set_option maxRecDepth 100000 in
set_option maxHeartbeats 1000000 in
theorem cfraction_any {M : Nat} (hD : Hid (DivOk M)) (hM : LenB M) {num den : Int} (b1 : -9223372036854775808 ≤ num) (b2 : num ≤ 9223372036854775807) (b3 : -9223372036854775808 ≤ den) (b4 : den ≤ 9223372036854775807) (hn : num.natAbs ≤ M) (hd : den.natAbs ≤ M) (hd0 : den ≠ 0) {w : World} {φ : Phi} (hφ : Fz φ w) (hp : PowP φ) {S T : ByteArray} {F : Int} (hR : Hid (ratR ((num : Rat) / (den : Rat)) = (S, T, F))) :
    Calls Tryz.prog 18 #[.int .i64 num, .int .i64 den] w (fun e w' => e = .returned (.agg #[.string S, .string T]) ∧ Below w.heap.size w w') := by
  have hRS := Lib.hid (RsSt.start (Inv.start hφ) #[.string ⟨#[]⟩, .string ⟨#[]⟩] 32)
  clear hφ
  go_enter Tryz.func18, Tryz.ntmps18
  go_wp2_with (go_at_call 19; refine (RatioOf_any hD hM b1 b2 b3 b4 hn hd hd0 hRS.out.inv.fz hp hR).mono ?_; rintro e w2 ⟨rfl, hb2⟩; have H2 := Lib.hid (hRS.out.callB hb2); have r0 : w2.cell? ⟨w.heap.size, 0, none⟩ = some (.string ⟨#[]⟩) := H2.out.k.cell 0; have r1 : w2.cell? ⟨w.heap.size, 1, none⟩ = some (.string ⟨#[]⟩) := H2.out.k.cell 1; have r2 := H2.out.k.frz 0; have r3 := H2.out.k.frz 1; have hlt := H2.out.k.lt)
  have hZ := Lib.hid (((H2.out.set 0 (.string S)).set 1 (.string T)).callB ((Below.refl _ _).alloc (Nat.le_refl _) (.cells #[.string S, .string T] 32)))
  have e0 : _ = some (Value.string S) := hZ.out.k.cell 0
  have e1 : _ = some (Value.string T) := hZ.out.k.cell 1
  (try simp only [Exit.inBlock, Exit.then])
  refine bodyPost_ret (v := .agg #[.string S, .string T]) (by simp [results, Tryz.results18, go_sem, e0, e1]) rfl ?_
  exact ⟨rfl, hZ.out.inv.bel⟩

/-- The error of codings and two coders. -/
noncomputable def bthF (l : List Nod) (cs : List Cdg) (a b : Int) : Int := if frcF l cs ≠ 0 then frcF l cs else if outB a 1 50 = true ∨ outB b 1 50 = true then 1 else 0
theorem bthF_swap (l : List Nod) (cs : List Cdg) (a b : Int) : bthF l cs b a = bthF l cs a b := by
  unfold bthF
  by_cases h1 : outB a 1 50 = true <;> by_cases h2 : outB b 1 50 = true <;> simp [h1, h2]
theorem outside_c (n lo hi : Int) (w : World) {b : Bool} (h : outB n lo hi = b) :
    Calls Tryz.prog 35 #[.int .i64 n, .int .i64 lo, .int .i64 hi] w fun e w' => e = .returned (.bool b) ∧ w = w' := by rw [← h]; exact outside_any n lo hi w
theorem both_any {w : World} {a : Option Addr} {c n : Nat} {l : List Nod} {φ : Phi} (hφ : Fz φ w) (s : SlV φ a c l) (hn : Hid (l.length = n)) (hm : n ≤ 9223372036854775807) {ac : Option Addr} {cc nc : Nat} {cs : List Cdg} (sc : SlV φ ac cc cs) (hnc : Hid (cs.length = nc)) (hmc : nc ≤ 9223372036854775807) (x y : Int) :
    Calls Tryz.prog 11 #[.slice a n c, .slice ac nc cc, .int .i64 x, .int .i64 y] w (IntB (bthF l cs x y) w) := by
  go_enter Tryz.func11, Tryz.ntmps11
  go_wp2_with fail
  refine (coders_any hφ s hn hm sc hnc hmc).mono ?_
  rintro e w1 ⟨hb, ⟨h0, p, rfl⟩ | ⟨h0, hok, bt, m1, m2, rfl, ht⟩⟩
  · obtain ⟨q, hq⟩ : ∃ q, Hid (frcF l cs = q) := ⟨_, Lib.hid rfl⟩
    rw [hq.out] at h0 ⊢
    have hg : ((q : Int) != 0) = true := by simp [h0]
    have H0 := Lib.hid h0
    have HB := Lib.hid hb
    clear h0 hb
    go_wp2
    go_ret
    exact ⟨ret_int (by rw [bthF, hq.out, if_pos H0.out]), HB.out⟩
  · have H0 := Lib.hid h0
    have HB := Lib.hid hb
    clear h0 hb hok ht
    obtain ⟨b1, hb1⟩ : ∃ b, Hid (outB x 1 50 = b) := ⟨_, Lib.hid rfl⟩
    obtain ⟨b2, hb2⟩ : ∃ b, Hid (outB y 1 50 = b) := ⟨_, Lib.hid rfl⟩
    have e : Hid (bthF l cs x y = if b1 = true ∨ b2 = true then 1 else 0) := Lib.hid (by rw [bthF, if_neg (by simp [H0.out]), hb1.out, hb2.out])
    cases b1 <;> cases b2
    all_goals
      go_wp2_with (go_at_call 35; first | ((with_reducible refine (outside_c x _ _ _ hb1.out).mono ?_); rintro e w' ⟨rfl, rfl⟩) | ((with_reducible refine (outside_c y _ _ _ hb2.out).mono ?_); rintro e w' ⟨rfl, rfl⟩) | fail)
      go_ret
      exact ⟨ret_int (by rw [e.out]; rfl), HB.out⟩
end Go.Proofs.YtngogjookldidaaGreatDoor

namespace Go.Proofs.YtngogjookldidaaGreatDoor
open Go.RowKit
set_option linter.unusedVariables false
set_option linter.unusedSimpArgs false
/-- Sums by a key, over the pairs that were met. -/
def frN (pr : Pr → Int) (cn : Pr → Nat) (S : List Pr) (c : Int) : Nat := sumN S (fun p => if pr p = c then cn p else 0)
def frF (pr : Pr → Int) (cn : Pr → Nat) (S : List Pr) : Int → Option Int := fun c => cnF (frN pr cn S c)
theorem frF_step (pr : Pr → Int) (cn : Pr → Nat) (S : List Pr) (k : Pr) (hpos : 0 < cn k) : updF (frF pr cn S) (pr k) ((frN pr cn S (pr k) : Int) + cn k) = frF pr cn (k :: S) := by
  funext c
  unfold updF frF frN
  rw [sumN_cons]
  by_cases h : c = pr k
  · subst h
    rw [if_pos rfl, if_pos rfl]
    unfold cnF
    rw [if_neg (by omega)]
    congr 1
    omega
  · rw [if_neg h, if_neg (fun e => h e.symm), Nat.zero_add]
def cnt1 (L : List Pr) : Pr → Nat := fun p => cntP (fun q => q = p) L
theorem frN_le (pr : Pr → Int) (L : List Pr) {S : List Pr} (hn : S.Nodup) (c : Int) : frN pr (cnt1 L) S c ≤ L.length :=
  Nat.le_trans (sumN_le (fun k _ => by show (if pr k = c then cnt1 L k else 0) ≤ cnt1 L k; split <;> omega)) (sum_cover_le hn (fun q : Pr => q) L)
theorem frN_all (pr : Pr → Int) {L : List Pr} {S : List Pr} (hn : S.Nodup) (hc : ∀ q ∈ L, q ∈ S) (c : Int) : frN pr (cnt1 L) S c = cntP (fun q => pr q = c) L := sum_pairs hn hc (fun q => pr q = c)
theorem sum_all {L : List Pr} {S : List Pr} (hn : S.Nodup) (hc : ∀ q ∈ L, q ∈ S) : sumN S (cnt1 L) = L.length := by
  have h := sum_pairs hn hc (fun _ => True)
  rw [cntP_all (fun _ _ => trivial)] at h
  rw [← h]
  exact sumN_congr (fun k _ => by rw [if_pos trivial]; rfl)
def smS (L : List Pr) (S : List Pr) : Nat := sumN S (fun p => if p.1 = p.2 then cnt1 L p else 0)
theorem smS_le (L : List Pr) {S : List Pr} (hn : S.Nodup) : smS L S ≤ L.length :=
  Nat.le_trans (sumN_le (fun k _ => by show (if k.1 = k.2 then cnt1 L k else 0) ≤ cnt1 L k; split <;> omega)) (sum_cover_le hn (fun q : Pr => q) L)
theorem smS_all {L : List Pr} {S : List Pr} (hn : S.Nodup) (hc : ∀ q ∈ L, q ∈ S) : smS L S = sameN L := sum_pairs hn hc (fun q => q.1 = q.2)
theorem sum_le {L : List Pr} {S : List Pr} (hn : S.Nodup) : sumN S (cnt1 L) ≤ L.length := sum_cover_le hn (fun q : Pr => q) L
/-- The sum over first codes so far. -/
def chS (L : List Pr) (S : List Int) : Nat := sumN S (fun c => cntP (fun q : Pr => q.1 = c) L * cntP (fun q : Pr => q.2 = c) L)
def cm1 (L : List Pr) : Int → Option Int := fun c => cnF (cntP (fun q : Pr => q.1 = c) L)
def cm2 (L : List Pr) : Int → Option Int := fun c => cnF (cntP (fun q : Pr => q.2 = c) L)
theorem cnF_pos' {n : Nat} (h : 0 < n) : cnF n = some (n : Int) := by unfold cnF; rw [if_neg (by omega)]
/-- Kappa of a list of pairs. -/
def kapR (L : List Pr) : ByteArray × ByteArray × Int :=
  if L.length = 0 then (⟨#[]⟩, ⟨#[]⟩, 9) else if chnc L = L.length * L.length then ratR (((1 : Int) : Rat) / ((1 : Int) : Rat))
  else ratR ((((sameN L * L.length : Nat) : Int) - (chnc L : Int) : Int) / (((L.length * L.length : Nat) : Int) - (chnc L : Int) : Int))
noncomputable def kapF (l : List Nod) (cs : List Cdg) (a b : Int) : ByteArray × ByteArray × Int := if bthF l cs a b ≠ 0 then (⟨#[]⟩, ⟨#[]⟩, bthF l cs a b) else kapR (prsL (grpK cs cs.length) a b)

/-- Two maps of counts and a result's cell. -/
structure KpS (w0 : World) (b8 r1 r2 : Nat) (f1 f2 : Int → Option Int) (wr : World) : Prop where
  bel : Below w0.heap.size w0 wr
  k : Blk wr b8 #[.string ⟨#[]⟩, .string ⟨#[]⟩] 32
  m1 : MapW wr r1 f1
  m2 : MapW wr r2 f2
  lo : w0.heap.size ≤ b8 ∧ w0.heap.size ≤ r1 ∧ w0.heap.size ≤ r2
  ne : b8 ≠ r1 ∧ b8 ≠ r2 ∧ r1 ≠ r2
/-- .. while a map of pairs is gone through. -/
structure KpR (w0 : World) (b8 r1 r2 : Nat) (f1 f2 : Int → Option Int) (rm ri : Nat) (f : Pr → Option Int) (S : List Pr) (wr : World) : Prop where
  st : KpS w0 b8 r1 r2 f1 f2 wr
  rg : RngP wr rm ri f S
  lo : w0.heap.size ≤ ri
  ni : b8 ≠ ri ∧ r1 ≠ ri ∧ r2 ≠ ri
  nm : r1 ≠ rm ∧ r2 ≠ rm
section
variable {w0 wr w' : World} {b8 r1 r2 rm ri : Nat} {f1 f2 f1' f2' : Int → Option Int} {f : Pr → Option Int} {S S' : List Pr}
theorem KpS.callB (h : KpS w0 b8 r1 r2 f1 f2 wr) (hb : Below wr.heap.size wr w') : KpS w0 b8 r1 r2 f1 f2 w' := ⟨h.bel.trans (hb.mono h.bel.size), h.k.callB hb, h.m1.callB hb, h.m2.callB hb, h.lo, h.ne⟩
theorem KpS.grown (h : KpS w0 b8 r1 r2 f1 f2 wr) {g : Nat} (hg : wr.grownBy w' (some g)) (hl : w0.heap.size ≤ g) (h0 : b8 ≠ g) (h1 : r1 ≠ g) (h2 : r2 ≠ g) : KpS w0 b8 r1 r2 f1 f2 w' :=
  ⟨Below_grown h.bel hg hl, Blk.grown h.k hg h0, h.m1.grown hg h1, h.m2.grown hg h2, h.lo, h.ne⟩
theorem KpR.callB (h : KpR w0 b8 r1 r2 f1 f2 rm ri f S wr) (hb : Below wr.heap.size wr w') : KpR w0 b8 r1 r2 f1 f2 rm ri f S w' := ⟨h.st.callB hb, h.rg.callB hb, h.lo, h.ni, h.nm⟩
theorem KpR.next (h : KpR w0 b8 r1 r2 f1 f2 rm ri f S wr) (hg : wr.grownBy w' (some ri)) (hR : RngP w' rm ri f S') : KpR w0 b8 r1 r2 f1 f2 rm ri f S' w' :=
  ⟨h.st.grown hg h.lo h.ni.1 h.ni.2.1 h.ni.2.2, hR, h.lo, h.ni, h.nm⟩
/-- A count is stored into one of the two. -/
theorem KpR.put1 (h : KpR w0 b8 r1 r2 f1 f2 rm ri f S wr) (k x : Int) : ∃ o, (Instr.mapUpdate 53 (.map (some r1)) (.int .i64 k) (.int .i64 x)).run Tryz.prog wr = .ok () (setMap wr r1 o) ∧ KpR w0 b8 r1 r2 (updF f1 k x) f2 rm ri f S (setMap wr r1 o) ∧ (setMap wr r1 o).rangeLeft rm ri = wr.rangeLeft rm ri := by
  obtain ⟨o, p, q⟩ := h.st.m1.put k x
  have g := setMap_grown wr r1 o
  have e1 := g.block rm h.rg.lt.1 (fun e => h.nm.1 (by cases e; rfl))
  have e2 := g.block ri h.rg.lt.2.1 (fun e => h.ni.2.1 (by cases e; rfl))
  exact ⟨o, p 0, ⟨⟨Below_grown h.st.bel g h.st.lo.2.1, Blk.grown h.st.k g h.st.ne.1, q _ (setMap_same o h.st.m1.lt), h.st.m2.grown g h.st.ne.2.2.symm, h.st.lo, h.st.ne⟩, h.rg.kept e1 e2, h.lo, h.ni, h.nm⟩, h.rg.left e1 e2⟩
theorem KpR.put2 (h : KpR w0 b8 r1 r2 f1 f2 rm ri f S wr) (k x : Int) : ∃ o, (Instr.mapUpdate 53 (.map (some r2)) (.int .i64 k) (.int .i64 x)).run Tryz.prog wr = .ok () (setMap wr r2 o) ∧ KpR w0 b8 r1 r2 f1 (updF f2 k x) rm ri f S (setMap wr r2 o) ∧ (setMap wr r2 o).rangeLeft rm ri = wr.rangeLeft rm ri := by
  obtain ⟨o, p, q⟩ := h.st.m2.put k x
  have g := setMap_grown wr r2 o
  have e1 := g.block rm h.rg.lt.1 (fun e => h.nm.2 (by cases e; rfl))
  have e2 := g.block ri h.rg.lt.2.1 (fun e => h.ni.2.2 (by cases e; rfl))
  exact ⟨o, p 0, ⟨⟨Below_grown h.st.bel g h.st.lo.2.2, Blk.grown h.st.k g h.st.ne.2.1, h.st.m1.grown g h.st.ne.2.2, q _ (setMap_same o h.st.m2.lt), h.st.lo, h.st.ne⟩, h.rg.kept e1 e2, h.lo, h.ni, h.nm⟩, h.rg.left e1 e2⟩
end
/-- The maps are made. -/
theorem KpS.start {w0 w1 : World} {b8 : Nat} (hb : Below w0.heap.size w0 w1) (hk : Blk w1 b8 #[.string ⟨#[]⟩, .string ⟨#[]⟩] 32) (hl : w0.heap.size ≤ b8) : KpS w0 b8 w1.heap.size (w1.heap.size + 1) (fun _ => none) (fun _ => none) ((w1.alloc (.map #[] 0)).alloc (.map #[] 0)) := by
  have h1 : MapW (w1.alloc (.map #[] 0)) w1.heap.size (fun _ => none) := ⟨_, [], heap_alloc_new w1 _, MapO.empty, fun _ => rfl⟩
  have h2 : MapW ((w1.alloc (.map #[] 0)).alloc (.map #[] 0)) (w1.alloc (.map #[] 0)).heap.size (fun _ => none) := ⟨_, [], heap_alloc_new _ _, MapO.empty, fun _ => rfl⟩
  have e1 : (w1.alloc (.map #[] 0)).heap.size = w1.heap.size + 1 := by simp
  rw [e1] at h2
  have := hk.lt
  have := hb.size
  exact ⟨(hb.alloc hb.size _).alloc (by rw [e1]; omega) _, (hk.alloc _).alloc _, h1.callB ((Below.refl _ _).alloc (Nat.le_refl _) _), h2, ⟨hl, by omega, by omega⟩, by omega, by omega, by omega⟩
set_option maxRecDepth 100000 in
set_option maxHeartbeats 4000000 in
theorem Kappa_any {w : World} {a : Option Addr} {c n : Nat} {l : List Nod} {φ : Phi} (hφ : Fz φ w) (hp : PowP φ) (s : SlV φ a c l) (hn : Hid (l.length = n)) (hm : n ≤ 9223372036854775807) {ac : Option Addr} {cc nc : Nat} {cs : List Cdg} (sc : SlV φ ac cc cs) (hnc : Hid (cs.length = nc)) (hmc : nc ≤ 9223372036854775807) (x y : Int) {S T : ByteArray} {F : Int} (hR : Hid (kapF l cs x y = (S, T, F))) :
    Calls Tryz.prog 7 #[.slice a n c, .slice ac nc cc, .int .i64 x, .int .i64 y] w (fun e w' => e = .returned (.tuple #[.agg #[.string S, .string T], .int .i64 F]) ∧ Below w.heap.size w w') := by
  have hRS := Lib.hid (RsSt.start (Inv.start hφ) #[.string ⟨#[]⟩, .string ⟨#[]⟩] 32)
  have HPW := Lib.hid hp
  have HFZ := Lib.hid hφ
  have hmm := @run_makeMap Tryz.prog
  obtain ⟨eb, heb⟩ : ∃ q, Hid (bthF l cs x y = q) := ⟨_, Lib.hid rfl⟩
  by_cases h0 : eb = 0
  case neg =>
    have hg : ((eb : Int) != 0) = true := by simp [h0]
    have hR2 : Hid ((S, T, F) = (⟨#[]⟩, ⟨#[]⟩, eb)) := Lib.hid (by rw [← hR.out, kapF, heb.out, if_pos h0])
    go_enter Tryz.func7, Tryz.ntmps7
    go_wp2_with fail
    refine (both_any hRS.out.inv.fz s hn hm sc hnc hmc x y).mono ?_
    rintro e w1 ⟨rfl, hb1⟩
    rw [heb.out]
    have H1 := Lib.hid (hRS.out.callB hb1)
    have r0 : w1.cell? ⟨w.heap.size, 0, none⟩ = some (.string ⟨#[]⟩) := H1.out.k.cell 0
    have r1 : w1.cell? ⟨w.heap.size, 1, none⟩ = some (.string ⟨#[]⟩) := H1.out.k.cell 1
    have r2 := H1.out.k.frz 0
    have r3 := H1.out.k.frz 1
    clear hb1 hRS
    generalize w.heap.size = b8 at *
    go_wp2
    have hZ := Lib.hid ((H1.out.set 0 (.string ⟨#[]⟩)).set 1 (.string ⟨#[]⟩))
    have e0 : _ = some (Value.string ⟨#[]⟩) := hZ.out.k.cell 0
    have e1 : _ = some (Value.string ⟨#[]⟩) := hZ.out.k.cell 1
    (try simp only [Exit.inBlock, Exit.then])
    refine bodyPost_ret (v := .tuple #[.agg #[.string ⟨#[]⟩, .string ⟨#[]⟩], .int .i64 eb]) (by simp [results, Tryz.results7, go_sem, e0, e1]) rfl ?_
    have h := hR2.out
    cases h
    exact ⟨rfl, hZ.out.inv.bel⟩
  subst h0
  have hn2 : nc ≤ 20000 := by
    have h := heb.out
    unfold bthF at h
    by_cases hf : frcF l cs = 0
    · have := (cdg_ok hnc hf).1
      exact this
    · rw [if_pos hf] at h; exact absurd h hf
  have hR2 : Hid (kapR (prsL (grpK cs nc) x y) = (S, T, F)) := Lib.hid (by rw [← hR.out, kapF, heb.out, if_neg (by simp), hnc.out])
  have hLl : (prsL (grpK cs nc) x y).length ≤ 20000 := by
    have h1 := prsL_len (grpK cs nc) x y
    have h2 := (grpK_ok cs nc (by rw [hnc.out]; omega)).2.1
    omega
  generalize hLL : prsL (grpK cs nc) x y = L at *
  replace hLL := Lib.hid hLL
  have hz8 := hRS.out.l
  go_enter Tryz.func7, Tryz.ntmps7
  go_wp2_with fail
  refine (both_any hRS.out.inv.fz s hn hm sc hnc hmc x y).mono ?_
  rintro e w1 ⟨rfl, hb1⟩
  rw [heb.out]
  have H1 := Lib.hid (hRS.out.callB hb1)
  have hK1 := Lib.hid (KpS.start H1.out.inv.bel H1.out.k H1.out.l)
  go_wp2_with fail
  clear hb1 hRS hmm
  generalize ((w1.alloc (.map #[] 0)).alloc (.map #[] 0)) = w2 at *
  generalize hr1 : w1.heap.size = r1 at *
  generalize hr2 : r1 + 1 = r2 at *
  clear H1
  generalize hb8 : w.heap.size = b8 at *
  clear hr1 hr2
  refine (common_any (HFZ.out.below hK1.out.bel) sc hnc hn2 x y).mono ?_
  rintro e w3 ⟨rm, rfl, hm3, hb3, hrm⟩
  have hK3 := Lib.hid (hK1.out.callB hb3)
  have hr1 := hK1.out.m1.lt
  have hr2 := hK1.out.m2.lt
  have hb8' := hK1.out.k.lt
  have hrml := hm3.lt
  have hsz := hK3.out.bel.size
  have HM3 := Lib.hid hm3
  clear hb3 hK1 hm3
  go_wp2_with (at_range; refine wpList_range_P rfl _ rfl rfl HM3.out ?_; intro w4 hrg4 hb4 hs4)
  go_frame
  have hK4 : Hid (KpR w b8 r1 r2 (frF (·.1) (cnt1 L) []) (frF (·.2) (cnt1 L) []) rm w3.heap.size (cmF L) [] w4) := Lib.hid (by
    rw [hLL.out] at hrg4
    exact ⟨hK3.out.callB hb4, hrg4, hsz, ⟨by omega, by omega, by omega⟩, by omega, by omega⟩)
  clear hrg4 hb4 hs4 hK3 HM3 hr1 hr2 hb8' hrml hsz hrm
  generalize w3.heap.size = ri at *
  go_loopw [13, 14] (fun v13 v14 wr => ∃ (S : List Pr), v13 = .int .i64 (sumN S (cnt1 L) : Nat) ∧ v14 = .int .i64 (smS L S : Nat) ∧ Hid S.Nodup ∧ Hid (KpR w b8 r1 r2 (frF (·.1) (cnt1 L) S) (frF (·.2) (cnt1 L) S) rm ri (cmF L) S wr)) (fun _ _ wr => wr.rangeLeft rm ri)
  case atStart => exact ⟨[], rfl, rfl, Lib.hid List.nodup_nil, hK4⟩
  case round =>
    clear hK4
    obtain ⟨Sm, rfl, rfl, hnd, hK⟩ := hrel
    go_wp2_with (at_next; refine wpList_next_P rfl _ rfl rfl hK.out.rg ?_ ?_)
    · intro hdone
      have hcov := Lib.hid (fun q (hq : q ∈ L) => hdone q.1 q.2 _ (show cmF L (q.1, q.2) = some _ from cnF_pos' (cntP_pos _ hq rfl)))
      have hN : Hid (sumN Sm (cnt1 L) = L.length) := Lib.hid (sum_all hnd.out hcov.out)
      have hM : Hid (smS L Sm = sameN L) := Lib.hid (smS_all hnd.out hcov.out)
      have hKs := Lib.hid hK.out.st
      rw [show frF (·.1) (cnt1 L) Sm = cm1 L by funext c; unfold frF cm1; rw [frN_all _ hnd.out hcov.out], show frF (·.2) (cnt1 L) Sm = cm2 L by funext c; unfold frF cm2; rw [frN_all _ hnd.out hcov.out]] at hKs
      rw [hN.out, hM.out]
      have hsm := Lib.hid (cntP_le (fun q : Pr => q.1 = q.2) L)
      have hch := Lib.hid (chnc_le L)
      clear hK hdone hcov hN hM hnd
      by_cases hL0 : L.length = 0
      · have g0 : (((L.length : Nat) : Int) == 0) = true := by simp [hL0]
        have hR3 : Hid ((S, T, F) = (⟨#[]⟩, ⟨#[]⟩, 9)) := Lib.hid (by rw [← hR2.out, kapR, if_pos hL0])
        clear hL0
        have r0 : wr.cell? ⟨b8, 0, none⟩ = some (.string ⟨#[]⟩) := hKs.out.k.cell 0
        have r1' : wr.cell? ⟨b8, 1, none⟩ = some (.string ⟨#[]⟩) := hKs.out.k.cell 1
        have r2' := hKs.out.k.frz 0
        have r3' := hKs.out.k.frz 1
        generalize ((L.length : Nat) : Int) = n0 at *
        go_wp2
        have hZ := Lib.hid ((hKs.out.k.set 0 (.string ⟨#[]⟩)).set 1 (.string ⟨#[]⟩))
        have e0 : _ = some (Value.string ⟨#[]⟩) := hZ.out.cell 0
        have e1 : _ = some (Value.string ⟨#[]⟩) := hZ.out.cell 1
        (try simp only [Exit.inBlock, Exit.then])
        refine bodyPost_ret (v := .tuple #[.agg #[.string ⟨#[]⟩, .string ⟨#[]⟩], .int .i64 9]) (by simp [results, Tryz.results7, go_sem, e0, e1]) rfl ?_
        have h := hR3.out
        cases h
        exact ⟨rfl, Below_grown (Below_grown hKs.out.bel (grown_setC _ _ _ _) hKs.out.lo.1) (grown_setC _ _ _ _) hKs.out.lo.1⟩
      have g0 : (((L.length : Nat) : Int) == 0) = false := by rw [beq_eq_false_iff_ne]; omega
      have hR3 : Hid ((if chnc L = L.length * L.length then ratR (((1 : Int) : Rat) / ((1 : Int) : Rat)) else ratR ((((sameN L * L.length : Nat) : Int) - (chnc L : Int) : Int) / (((L.length * L.length : Nat) : Int) - (chnc L : Int) : Int))) = (S, T, F)) := Lib.hid (by rw [← hR2.out, kapR, if_neg hL0])
      have hm1 := Lib.hid hKs.out.m1
      clear hL0
      go_wp2_with (at_range; refine wpList_range_F rfl _ rfl rfl hm1.out ?_; intro w6 hrg6 hb6 hs6)
      (try go_frame)
      have hK6 := Lib.hid (hKs.out.callB hb6)
      have HRG := Lib.hid hrg6
      have hj1 := hKs.out.m1.lt
      have hj2 := hKs.out.m2.lt
      have hj3 := hKs.out.k.lt
      have hj4 := hKs.out.bel.size
      generalize hrj : wr.heap.size = rj at *
      have hnj : Hid (b8 ≠ rj ∧ r1 ≠ rj ∧ r2 ≠ rj ∧ w.heap.size ≤ rj) := Lib.hid ⟨by omega, by omega, by omega, by omega⟩
      clear hrg6 hb6 hs6 hm1 hKs hj1 hj2 hj3 hj4 hrj
      go_loopw [17] (fun v17 wi => ∃ (Sc : List Int), v17 = .int .i64 (chS L Sc : Nat) ∧ Hid Sc.Nodup ∧ Hid (KpS w b8 r1 r2 (cm1 L) (cm2 L) wi) ∧ Hid (RngF wi r1 rj (cm1 L) Sc)) (fun _ wi => wi.rangeLeft r1 rj)
      case atStart => exact ⟨[], rfl, Lib.hid List.nodup_nil, hK6, HRG⟩
      case round =>
        clear hK6 HRG
        rename World => wi
        obtain ⟨Sc, rfl, hnd, hK, hRG⟩ := hrel
        go_wp2_with (at_next; refine wpList_next_F rfl _ rfl rfl hRG.out ?_ ?_)
        · intro hdone
          have hch2 : Hid (chS L Sc = chnc L) := Lib.hid (chnc_sum hnd.out (fun q hq => hdone q.1 _ (show cm1 L q.1 = some _ from cnF_pos' (cntP_pos _ hq rfl))))
          rw [hch2.out]
          clear hdone hch2 hRG
          have hn2 : L.length * L.length ≤ 20000 * 20000 := Nat.mul_le_mul hLl hLl
          have hsn : sameN L * L.length ≤ 20000 * 20000 := Nat.mul_le_mul (Nat.le_trans hsm.out hLl) hLl
          have hle := hch.out
          obtain ⟨A, hA⟩ : ∃ A, Hid (sameN L * L.length = A) := ⟨_, Lib.hid rfl⟩
          obtain ⟨B, hBq⟩ : ∃ B, Hid (L.length * L.length = B) := ⟨_, Lib.hid rfl⟩
          have hwB : IntKind.i64.wrap ((L.length : Int) * (L.length : Int)) = (B : Int) := by
            rw [← hBq.out, Int.natCast_mul]
            refine IntWalk.i64_in _ ?_
            rw [← Int.natCast_mul]
            omega
          have hwA : IntKind.i64.wrap ((sameN L : Int) * (L.length : Int)) = (A : Int) := by
            rw [← hA.out, Int.natCast_mul]
            refine IntWalk.i64_in _ ?_
            rw [← Int.natCast_mul]
            omega
          rw [hBq.out] at hn2 hle hR3
          rw [hA.out] at hsn hR3
          generalize chnc L = ch at *
          generalize sameN L = sm at *
          generalize L.length = nn at *
          by_cases hc2 : ch = B
          · have g1 : ((ch : Int) == (B : Int)) = true := by simp [hc2]
            rw [if_pos hc2] at hR3
            clear hc2
            go_wp2_with (go_at_call 18; refine (cfraction_any (M := 999999999) (num := 1) (den := 1) (Lib.hid div_one) lenB_oneC (by omega) (by omega) (by omega) (by omega) (by omega) (by omega) (by omega) (HFZ.out.below hK.out.bel) HPW.out hR3).mono ?_; rintro e wz ⟨rfl, hbz⟩; have HZ := Lib.hid (hK.out.callB hbz); clear hbz hwA hwB g1; have r0 : wz.cell? ⟨b8, 0, none⟩ = some (.string ⟨#[]⟩) := HZ.out.k.cell 0; have r1' : wz.cell? ⟨b8, 1, none⟩ = some (.string ⟨#[]⟩) := HZ.out.k.cell 1; have r2' := HZ.out.k.frz 0; have r3' := HZ.out.k.frz 1)
            have hZ := Lib.hid ((HZ.out.k.set 0 (.string S)).set 1 (.string T))
            have e0 : _ = some (Value.string S) := hZ.out.cell 0
            have e1 : _ = some (Value.string T) := hZ.out.cell 1
            (try simp only [Exit.inBlock, Exit.then])
            refine bodyPost_ret (v := .tuple #[.agg #[.string S, .string T], .int .i64 0]) (by simp [results, Tryz.results7, go_sem, e0, e1]) rfl ?_
            have hF := (ratR_smallC (num := 1) (den := 1) (by omega) (by omega) (by omega) hR3.out).1
            subst hF
            exact ⟨rfl, Below_grown (Below_grown HZ.out.bel (grown_setC _ _ _ _) HZ.out.lo.1) (grown_setC _ _ _ _) HZ.out.lo.1⟩
          · have g1 : ((ch : Int) == (B : Int)) = false := by simp; omega
            rw [if_neg hc2] at hR3
            have hlt3 : ch < B := by omega
            clear hc2
            go_wp2_with (go_at_call 19; refine (RatioOf_any (M := 999999999) (num := (A : Int) - ch) (den := (B : Int) - ch) (Lib.hid div_one) lenB_oneC (by omega) (by omega) (by omega) (by omega) (by omega) (by omega) (by omega) (HFZ.out.below hK.out.bel) HPW.out hR3).mono ?_; rintro e wz ⟨rfl, hbz⟩; have HZ := Lib.hid (hK.out.callB hbz); clear hbz hwA hwB g1; have r0 : wz.cell? ⟨b8, 0, none⟩ = some (.string ⟨#[]⟩) := HZ.out.k.cell 0; have r1' : wz.cell? ⟨b8, 1, none⟩ = some (.string ⟨#[]⟩) := HZ.out.k.cell 1; have r2' := HZ.out.k.frz 0; have r3' := HZ.out.k.frz 1)
            have hZ := Lib.hid ((HZ.out.k.set 0 (.string S)).set 1 (.string T))
            have e0 : _ = some (Value.string S) := hZ.out.cell 0
            have e1 : _ = some (Value.string T) := hZ.out.cell 1
            (try simp only [Exit.inBlock, Exit.then])
            refine bodyPost_ret (v := .tuple #[.agg #[.string S, .string T], .int .i64 F]) (by simp [results, Tryz.results7, go_sem, e0, e1]) rfl ?_
            exact ⟨rfl, Below_grown (Below_grown HZ.out.bel (grown_setC _ _ _ _) HZ.out.lo.1) (grown_setC _ _ _ _) HZ.out.lo.1⟩
        · intro cc v w7 hfc hS hR7 hg7 hsz hlt hen
          obtain ⟨hc0, rfl⟩ := cnF_some hfc
          have hK7 := Lib.hid (hK.out.grown hg7 hnj.out.2.2.2 hnj.out.1 hnj.out.2.1 hnj.out.2.2.1)
          have HR7 := Lib.hid hR7
          have hnd7 : Hid ((cc :: Sc).Nodup) := Lib.hid (List.nodup_cons.2 ⟨hS, hnd.out⟩)
          have hlt' := Lib.hid hlt
          have hsum : Hid (chS L (cc :: Sc) = cntP (fun q : Pr => q.1 = cc) L * cntP (fun q : Pr => q.2 = cc) L + chS L Sc) := Lib.hid (sumN_cons _ _ _)
          have hpl := chnc_part hnd7.out L
          rw [show sumN (cc :: Sc) (fun c => cntP (fun q : Pr => q.1 = c) L * cntP (fun q : Pr => q.2 = c) L) = chS L (cc :: Sc) from rfl, hsum.out] at hpl
          have hnn : L.length * L.length ≤ 20000 * 20000 := Nat.mul_le_mul hLl hLl
          have l2 := hK7.out.m2.look_no cc
          rw [show ((cm2 L cc).getD 0) = (cntP (fun q : Pr => q.2 = cc) L : Int) from cnF_getD _] at l2
          obtain ⟨m, hmm⟩ : ∃ m, Hid (cntP (fun q : Pr => q.1 = cc) L * cntP (fun q : Pr => q.2 = cc) L = m) := ⟨_, Lib.hid rfl⟩
          rw [hmm.out] at hpl hsum
          have hw1 : IntKind.i64.wrap ((cntP (fun q : Pr => q.1 = cc) L : Int) * (cntP (fun q : Pr => q.2 = cc) L : Int)) = (m : Int) := by
            rw [← hmm.out, Int.natCast_mul]
            refine IntWalk.i64_in _ ?_
            rw [← Int.natCast_mul, hmm.out]
            omega
          generalize cntP (fun q : Pr => q.1 = cc) L = c1 at *
          generalize cntP (fun q : Pr => q.2 = cc) L = c2 at *
          generalize chS L Sc = ch at *
          clear hfc hS hR7 hg7 hlt
          go_wp2
          go_roundw
          case rel => exact ⟨cc :: Sc, congrArg (Value.int .i64) (by have := hsum.out; omega), hnd7, hK7, HR7⟩
          case measure => exact hlt'.out
    · intro k1 k2 v w5 hfc hS hR5 hg5 hsz hlt hen
      obtain ⟨hc0, rfl⟩ := cnF_some hfc
      have hK5 := Lib.hid (hK.out.next hg5 hR5)
      have hnd5 : Hid (((k1, k2) :: Sm).Nodup) := Lib.hid (List.nodup_cons.2 ⟨hS, hnd.out⟩)
      have hlt' := Lib.hid hlt
      have hsz5 := hsz
      have hle5 := Lib.hid (hK5.out.rg.left (w' := w5.alloc (.cells #[.int .i64 k1, .int .i64 k2] 43)) (((Below.refl _ _).alloc (Nat.le_refl _) _).block _ hK5.out.rg.lt.1) (((Below.refl _ _).alloc (Nat.le_refl _) _).block _ hK5.out.rg.lt.2.1))
      have hK6 := Lib.hid (hK5.out.callB ((Below.refl _ _).alloc (Nat.le_refl _) (.cells #[.int .i64 k1, .int .i64 k2] 43)))
      have hKB := Lib.hid (Blk.new w5 #[.int .i64 k1, .int .i64 k2] 43)
      have hx1 : Hid (w5.heap.size ≠ r1 ∧ w5.heap.size ≠ r2) := Lib.hid ⟨by have := hK5.out.st.m1.lt; omega, by have := hK5.out.st.m2.lt; omega⟩
      have hpos : Hid (0 < cnt1 L (k1, k2)) := Lib.hid hc0
      have hcn : cntP (fun q => q = ((k1, k2) : Pr)) L = cnt1 L (k1, k2) := rfl
      rw [hcn] at hen ⊢
      clear hfc hS hR5 hg5 hlt hsz hsz5 hK hcn hc0
      go_upto_region 9 with (fail)
      clear hK5 hen
      generalize w5.alloc (.cells #[.int .i64 k1, .int .i64 k2] 43) = w6 at *
      generalize w5.heap.size = bx at *
      have l1 := hK6.out.st.m1.look_no k1
      have n1 := frN_le (·.1) L hnd.out k1
      have n2 := frN_le (·.2) L hnd.out k2
      rw [show ((frF (·.1) (cnt1 L) Sm) k1).getD 0 = (frN (·.1) (cnt1 L) Sm k1 : Int) from cnF_getD _] at l1
      have s1 : Hid (updF (frF (·.1) (cnt1 L) Sm) k1 ((frN (·.1) (cnt1 L) Sm k1 : Int) + cnt1 L (k1, k2)) = frF (·.1) (cnt1 L) ((k1, k2) :: Sm)) := Lib.hid (frF_step (·.1) (cnt1 L) Sm (k1, k2) hpos.out)
      have s2 : Hid (updF (frF (·.2) (cnt1 L) Sm) k2 ((frN (·.2) (cnt1 L) Sm k2 : Int) + cnt1 L (k1, k2)) = frF (·.2) (cnt1 L) ((k1, k2) :: Sm)) := Lib.hid (frF_step (·.2) (cnt1 L) Sm (k1, k2) hpos.out)
      have q1 : Hid (sumN ((k1, k2) :: Sm) (cnt1 L) = cnt1 L (k1, k2) + sumN Sm (cnt1 L)) := Lib.hid (sumN_cons _ _ _)
      have q2 : Hid (smS L ((k1, k2) :: Sm) = (if k1 = k2 then cnt1 L (k1, k2) else 0) + smS L Sm) := Lib.hid (sumN_cons _ _ _)
      have u1 := sum_le (L := L) hnd5.out
      have u2 := smS_le L hnd.out
      rw [q1.out] at u1
      obtain ⟨o1, p1, K7, le7⟩ := hK6.out.put1 k1 ((frN (·.1) (cnt1 L) Sm k1 : Int) + cnt1 L (k1, k2))
      rw [s1.out] at K7
      have l2 := K7.st.m2.look_no k2
      rw [show ((frF (·.2) (cnt1 L) Sm) k2).getD 0 = (frN (·.2) (cnt1 L) Sm k2 : Int) from cnF_getD _] at l2
      obtain ⟨o2, p2, K8, le8⟩ := K7.put2 k2 ((frN (·.2) (cnt1 L) Sm k2 : Int) + cnt1 L (k1, k2))
      rw [s2.out] at K8
      have B7 := Blk.grown hKB.out (setMap_grown w6 r1 o1) hx1.out.1
      have B8 := Blk.grown B7 (setMap_grown _ r2 o2) hx1.out.2
      have x0 : w6.cell? ⟨bx, 0, none⟩ = some (.int .i64 k1) := hKB.out.cell 0
      have x1 : (setMap w6 r1 o1).cell? ⟨bx, 1, none⟩ = some (.int .i64 k2) := B7.cell 1
      have x2 : (setMap (setMap w6 r1 o1) r2 o2).cell? ⟨bx, 0, none⟩ = some (.int .i64 k1) := B8.cell 0
      have x3 : (setMap (setMap w6 r1 o1) r2 o2).cell? ⟨bx, 1, none⟩ = some (.int .i64 k2) := B8.cell 1
      have hlt9 : Hid ((setMap (setMap w6 r1 o1) r2 o2).rangeLeft rm ri < wr.rangeLeft rm ri) := Lib.hid (by rw [le8, le7, hle5.out]; exact hlt'.out)
      have HK8 := Lib.hid K8
      clear K7 K8 le7 le8 B7 B8 hK6 hKB s1 s2 hle5 hlt'
      generalize setMap (setMap w6 r1 o1) r2 o2 = w8 at *
      generalize setMap w6 r1 o1 = w7 at *
      generalize frN (·.1) (cnt1 L) Sm k1 = N1 at *
      generalize frN (·.2) (cnt1 L) Sm k2 = N2 at *
      generalize cnt1 L (k1, k2) = cn at *
      generalize hN : sumN Sm (cnt1 L) = N at *
      generalize hM : smS L Sm = M at *
      by_cases heq : k1 = k2
      · have he : ((k1 : Int) == k2) = true := by simp [heq]
        rw [if_pos heq] at q2
        clear heq hN hM
        go_wp2
        go_roundw
        case rel => exact ⟨(k1, k2) :: Sm, congrArg (Value.int .i64) (by have := q1.out; omega), congrArg (Value.int .i64) (by have := q2.out; omega), hnd5, HK8⟩
        case measure => exact hlt9.out
      · have he : ((k1 : Int) == k2) = false := by simp [heq]
        rw [if_neg heq] at q2
        clear heq hN hM
        go_wp2
        go_roundw
        case rel => exact ⟨(k1, k2) :: Sm, congrArg (Value.int .i64) (by have := q1.out; omega), congrArg (Value.int .i64) (by have := q2.out; omega), hnd5, HK8⟩
        case measure => exact hlt9.out
end Go.Proofs.YtngogjookldidaaGreatDoor
