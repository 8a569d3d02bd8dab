/- Maps as lists of pairs: what a map's block reads as, and what looking up, storing, making and counting do. Ranging over maps as lists of pairs. Maps of slices that a call makes (group by a key): each slice is the call's own. Conditions: none beyond what the claim form gives. -/
import Derived.Test.YtdlnhmcgnpjooaaGreatDoorLB
import Derived.MapKept
import Derived.Carry
import Derived.Maps.RangeWalk
namespace Go.Proofs.YtdlnhmcgnpjooaaGreatDoor
open Go.RowKit
set_option linter.unusedVariables false
set_option linter.unusedSimpArgs false

/-- A type of keys. -/
class Key (κ : Type) [DecidableEq κ] where
  v : κ → Value
  d : TypeDesc
  same : ∀ a b : κ, Instr.sameNow d (v a) (v b) = some (decide (a = b))
  isKey : ∀ a, MapKept.IsKey d (v a)
  bits : ∀ n (a : κ), Instr.sameBits n (v a) (v a) = true
instance : Key Int where
  v := fun n => .int .i64 n
  d := .int .i64
  same := by intro a b; simp [Instr.sameNow]; rw [Bool.eq_iff_iff]; simp
  isKey := fun a => rfl
  bits := by intro n a; cases n <;> simp [Instr.sameBits]
instance : Key ByteArray where
  v := fun s => .string s
  d := .string
  same := by intro a b; simp [Instr.sameNow]; rw [Bool.eq_iff_iff]; simp [MapKept.bytes_beq]
  isKey := fun a => trivial
  bits := by intro n a; cases n <;> simp [Instr.sameBits, MapKept.bytes_beq]

section
variable {κ α : Type} [DecidableEq κ]
def mget (m : List (κ × α)) (k : κ) : Option α := (m.find? (fun p => decide (p.1 = k))).map (·.2)
def mput (m : List (κ × α)) (k : κ) (x : α) : List (κ × α) := if (mget m k).isSome then m.map (fun p => if p.1 = k then (k, x) else p) else m ++ [(k, x)]
theorem mget_nil (k : κ) : mget ([] : List (κ × α)) k = none := rfl
theorem mget_cons (p : κ × α) (m : List (κ × α)) (k : κ) : mget (p :: m) k = if p.1 = k then some p.2 else mget m k := by
  unfold mget
  rw [List.find?_cons]
  by_cases h : p.1 = k <;> simp [h]
theorem mget_append (a b : List (κ × α)) (k : κ) : mget (a ++ b) k = (mget a k).or (mget b k) := by
  induction a with
  | nil => simp [mget_nil]
  | cons p a ih => rw [List.cons_append, mget_cons, mget_cons, ih]; split <;> simp
theorem mget_map_ne (m : List (κ × α)) (k k' : κ) (x : α) (h : k' ≠ k) : mget (m.map (fun p => if p.1 = k then (k, x) else p)) k' = mget m k' := by
  induction m with
  | nil => rfl
  | cons p m ih =>
    rw [List.map_cons, mget_cons, mget_cons, ih]
    by_cases e : p.1 = k
    · rw [if_pos e, if_neg (fun e2 => h e2.symm), if_neg (fun e2 => h (e2.symm.trans e))]
    · rw [if_neg e]
theorem mget_map_eq (m : List (κ × α)) (k : κ) (x : α) (h : (mget m k).isSome = true) : mget (m.map (fun p => if p.1 = k then (k, x) else p)) k = some x := by
  induction m with
  | nil => simp [mget_nil] at h
  | cons p m ih =>
    rw [List.map_cons, mget_cons]
    by_cases e : p.1 = k
    · rw [if_pos e]; simp
    · rw [if_neg e, if_neg e]
      rw [mget_cons, if_neg e] at h
      exact ih h
theorem mget_mput (m : List (κ × α)) (k k' : κ) (x : α) : mget (mput m k x) k' = if k' = k then some x else mget m k' := by
  unfold mput
  by_cases h : (mget m k).isSome = true
  · rw [if_pos h]
    by_cases e : k' = k
    · subst e; rw [if_pos rfl]; exact mget_map_eq m k' x h
    · rw [if_neg e]; exact mget_map_ne m k k' x e
  · rw [if_neg h, mget_append, mget_cons, mget_nil]
    have hn : mget m k = none := by cases hh : mget m k <;> simp_all
    by_cases e : k' = k
    · subst e; rw [hn]; simp
    · rw [if_neg (fun e2 => e e2.symm), if_neg e]; simp
theorem keys_map (m : List (κ × α)) (k : κ) (x : α) : (m.map (fun p => if p.1 = k then (k, x) else p)).map (·.1) = m.map (·.1) := by
  rw [List.map_map]
  apply List.map_congr_left
  intro p _
  simp only [Function.comp]
  split
  · next h => exact h.symm
  · rfl
theorem mget_none_notMem (m : List (κ × α)) (k : κ) (h : mget m k = none) : k ∉ m.map (·.1) := by
  intro hm
  obtain ⟨p, hp, rfl⟩ := List.mem_map.1 hm
  unfold mget at h
  rw [Option.map_eq_none_iff, List.find?_eq_none] at h
  exact h p hp (by simp)
theorem mput_nodup (m : List (κ × α)) (k : κ) (x : α) (h : (m.map (·.1)).Nodup) : ((mput m k x).map (·.1)).Nodup := by
  unfold mput
  split
  · rw [keys_map]; exact h
  · next hn =>
    have hn : mget m k = none := by cases hh : mget m k <;> simp_all
    have := mget_none_notMem m k hn
    rw [List.map_append, List.nodup_append]
    refine ⟨h, by simp, ?_⟩
    intro a ha b hb
    simp at hb
    subst hb
    intro e
    subst e
    exact this ha

end

section
variable {κ α : Type} [DecidableEq κ] [Key κ]

/-- What a map's entries say: pairs of a key and a value, in their order. -/
structure MapO (vr : α → Value → Prop) (o : Obj) (m : List (κ × α)) : Prop where
  ex : ∃ (es : Array MapEntry) (clock : Nat), o = .map es clock ∧ es.size = m.length ∧
    (∀ i (h : i < m.length), ∃ e, es[i]? = some e ∧ e.key = Key.v m[i].1 ∧ vr m[i].2 e.val) ∧ (∀ (i : Nat) (e : MapEntry), es[i]? = some e → e.born < clock) ∧ (∀ (i j : Nat) (e e' : MapEntry), es[i]? = some e → es[j]? = some e' → e.born = e'.born → i = j)
  nodup : (m.map (·.1)).Nodup

/-- Where a key lies. -/
theorem findNow_spec (vr : α → Value → Prop) (k : κ) : ∀ (es : List MapEntry) (m : List (κ × α)) (i : Nat), es.length = m.length → (∀ j (h : j < m.length), ∃ e, es[j]? = some e ∧ e.key = Key.v m[j].1 ∧ vr m[j].2 e.val) →
    (mget m k = none ∧ Instr.findNow (Key.d κ) (Key.v k) es i = some none) ∨
    ∃ j x e, j < m.length ∧ m[j]? = some (k, x) ∧ es[j]? = some e ∧ vr x e.val ∧ mget m k = some x ∧ Instr.findNow (Key.d κ) (Key.v k) es i = some (some (i + j, e.val))
  | [], [], i, _, _ => .inl ⟨rfl, rfl⟩
  | [], p :: m, i, hl, _ => by simp at hl
  | e :: es, [], i, hl, _ => by simp at hl
  | e :: es, p :: m, i, hl, h => by
    obtain ⟨e0, h0, hk, hv⟩ := h 0 (by simp)
    simp at h0 hk hv
    subst h0
    simp only [Instr.findNow, hk, Key.same]
    by_cases hkk : k = p.1
    · subst hkk
      right
      refine ⟨0, p.2, e, by simp, by simp, by simp, hv, by rw [mget_cons, if_pos rfl], by simp⟩
    · rw [decide_eq_false hkk]
      rcases findNow_spec vr k es m (i + 1) (by simpa using hl) (fun j hj => by
        obtain ⟨e', q⟩ := h (j + 1) (by simp; omega)
        exact ⟨e', by simpa using q⟩) with ⟨a, b⟩ | ⟨j, x, e', a, b, c, d', f, g⟩
      · exact .inl ⟨by rw [mget_cons, if_neg (fun e => hkk e.symm)]; exact a, by simpa using b⟩
      · refine .inr ⟨j + 1, x, e', by simp; omega, by simpa using b, by simpa using c, d', by rw [mget_cons, if_neg (fun e => hkk e.symm)]; exact f, ?_⟩
        rw [show i + (j + 1) = i + 1 + j by omega]; simpa using g

/-- The world with a map's block set. -/
def setMap (w : World) (r : Nat) (o : Obj) : World := { w with heap := w.heap.setIfInBounds r o }
theorem setMap_same {w : World} {r : Nat} (o : Obj) (h : r < w.heap.size) : (setMap w r o).heap[r]? = some o := by
  simp [setMap, h]
theorem setMap_grown (w : World) (r : Nat) (o : Obj) : w.grownBy (setMap w r o) (some r) :=
  ⟨rfl, rfl, rfl, by simp [setMap], fun k _ hk => by simp only [setMap]; rw [Array.getElem?_setIfInBounds_ne (fun e => hk (by rw [e]))]⟩
theorem setMap_size (w : World) (r : Nat) (o : Obj) : (setMap w r o).heap.size = w.heap.size := by simp [setMap]

variable {P : Program} {w : World} {vr : α → Value → Prop} {T kt et : TypeId}
theorem run_lookup (ht : P.underlying T = some (.map kt et)) (hk : P.underlying kt = some (Key.d κ)) {r : Nat} {o : Obj} (hr : w.heap[r]? = some o) {m : List (κ × α)} (hm : MapO vr o m) (k : κ) (ok : Bool) {z : Value} (hz : (zeroValue et).run P w = .ok z w) :
    (∃ x v, mget m k = some x ∧ vr x v ∧ (Instr.lookup T (.map (some r)) (Key.v k) ok).run P w = .ok (if ok then .tuple #[v, .bool true] else v) w) ∨
    (mget m k = none ∧ (Instr.lookup T (.map (some r)) (Key.v k) ok).run P w = .ok (if ok then .tuple #[z, .bool false] else z) w) := by
  obtain ⟨es, clock, rfl, hlen, hat, _, _⟩ := hm.ex
  have hg : ∀ (w : World), w.heap[r]? = some (.map es clock) → (getObj r).run P w = .ok (.map es clock) w := fun w h => by simp only [getObj, Sem.run, h]
  rcases findNow_spec vr k es.toList m 0 (by simpa using hlen) (fun j hj => by obtain ⟨e, a, b⟩ := hat j hj; exact ⟨e, by simpa using a, b⟩) with ⟨a, b⟩ | ⟨j, x, e, a, b, c, d, f, g⟩
  · right
    refine ⟨a, ?_⟩
    unfold Instr.lookup Instr.findKey
    simp only [Sem.run_bind, run_underlying ht, run_underlying hk, Result.andThen, hg w hr, MapKept.run_checkKey hk (Key.isKey k), b, Sem.run_pure, hz]
  · left
    refine ⟨x, e.val, f, d, ?_⟩
    unfold Instr.lookup Instr.findKey
    simp only [Sem.run_bind, run_underlying ht, run_underlying hk, Result.andThen, hg w hr, MapKept.run_checkKey hk (Key.isKey k), g, Sem.run_pure]
theorem run_lookup_nil (ht : P.underlying T = some (.map kt et)) (hk : P.underlying kt = some (Key.d κ)) (k : κ) (ok : Bool) {z : Value} (hz : (zeroValue et).run P w = .ok z w) :
    (Instr.lookup T (.map none) (Key.v k) ok).run P w = .ok (if ok then .tuple #[z, .bool false] else z) w := by
  unfold Instr.lookup Instr.findKey
  simp only [Sem.run_bind, run_underlying ht, run_underlying hk, Result.andThen, MapKept.run_checkKey hk (Key.isKey k), Sem.run_pure, Instr.findNow, hz]
/-- A map's block behind a store. -/
def putObj (d : TypeDesc) (o : Obj) (key v : Value) : Obj :=
  match o with
  | .map es clock =>
    match Instr.findNow d key es.toList 0 with
    | some (some (i, _)) => .map (es.modify i fun e => { e with key := key, val := v }) clock
    | _ => .map (es.push { key := key, val := v, born := clock }) (clock + 1)
  | o => o
theorem run_mapUpdate (ht : P.underlying T = some (.map kt et)) (hk : P.underlying kt = some (Key.d κ)) {r : Nat} {o : Obj} (hr : w.heap[r]? = some o) {m : List (κ × α)} (hm : MapO vr o m) (k : κ) {x : α} {v : Value} (hv : vr x v) :
    (Instr.mapUpdate T (.map (some r)) (Key.v k) v).run P w = .ok () (setMap w r (putObj (Key.d κ) o (Key.v k) v)) ∧ MapO vr (putObj (Key.d κ) o (Key.v k) v) (mput m k x) := by
  obtain ⟨es, clock, rfl, hlen, hat, hborn, huniq⟩ := hm.ex
  have hg : (getObj r).run P w = .ok (.map es clock) w := by simp only [getObj, Sem.run, hr]
  have hs : ∀ o', (setObj r o').run P w = .ok () (setMap w r o') := fun o' => by simp only [setObj, Sem.run, hr, setMap]
  have hnd := mput_nodup m k x hm.nodup
  rcases findNow_spec vr k es.toList m 0 (by simpa using hlen) (fun j hj => by obtain ⟨e, a, b⟩ := hat j hj; exact ⟨e, by simpa using a, b⟩) with ⟨a, b⟩ | ⟨j, x0, e, a, b, c, d, f, g⟩
  · have hp : putObj (Key.d κ) (.map es clock) (Key.v k) v = .map (es.push { key := Key.v k, val := v, born := clock }) (clock + 1) := by simp only [putObj, b]
    rw [hp]
    refine ⟨?_, ⟨⟨_, _, rfl, ?_, ?_, ?_, ?_⟩, hnd⟩⟩
    · unfold Instr.mapUpdate Instr.findKey
      simp only [Sem.run_bind, run_underlying ht, run_underlying hk, Result.andThen, hg, MapKept.run_checkKey hk (Key.isKey k), b, Sem.run_pure, hs]
    · rw [mput, a]; simp [hlen]
    · intro i hi
      have em : mput m k x = m ++ [(k, x)] := by rw [mput, a]; rfl
      rw [Array.getElem?_push]
      by_cases h2 : i = es.size
      · subst h2
        refine ⟨_, if_pos rfl, ?_, ?_⟩
        · simp [em, hlen]
        · simp [em, hlen]; exact hv
      · have hi' : i < m.length := by simp [em] at hi; omega
        obtain ⟨e, q1, q2, q3⟩ := hat i hi'
        refine ⟨e, by rw [if_neg h2]; exact q1, ?_, ?_⟩
        · simp only [em]; rw [List.getElem_append_left hi']; exact q2
        · simp only [em]; rw [List.getElem_append_left hi']; exact q3
    · intro i e he
      rw [Array.getElem?_push] at he
      split at he
      · cases he; simp
      · have := hborn i e he; omega
    · intro i j e e' he he' hb
      rw [Array.getElem?_push] at he he'
      split at he
      · split at he'
        · omega
        · cases he; have := hborn j e' he'; simp at hb; omega
      · split at he'
        · cases he'; have := hborn i e he; simp at hb; omega
        · exact huniq i j e e' he he' hb
  · have hj : es[j]? = some e := by simpa using c
    have hkey : e.key = Key.v k := by
      obtain ⟨e', q1, q2, _⟩ := hat j a
      rw [hj] at q1; cases q1
      rw [q2]
      have := (List.getElem?_eq_some_iff.1 b).2
      rw [this]
    have em : mput m k x = m.map (fun p => if p.1 = k then (k, x) else p) := by rw [mput, f]; rfl
    have hp : putObj (Key.d κ) (.map es clock) (Key.v k) v = .map (es.modify j fun e => { e with key := Key.v k, val := v }) clock := by simp only [putObj, g, Nat.zero_add]
    rw [hp]
    refine ⟨?_, ⟨⟨_, _, rfl, ?_, ?_, ?_, ?_⟩, hnd⟩⟩
    · unfold Instr.mapUpdate Instr.findKey Instr.keyThatStays
      simp only [Sem.run_bind, run_underlying ht, run_underlying hk, Result.andThen, hg, MapKept.run_checkKey hk (Key.isKey k), g, Sem.run_pure, Nat.zero_add, hj, Option.map_some, Option.getD_some, hkey, Key.bits, if_true, hs]
    · rw [em]; simp [hlen]
    · intro i hi
      have hi' : i < m.length := by rw [em] at hi; simpa using hi
      obtain ⟨e1, q1, q2, q3⟩ := hat i hi'
      rw [Array.getElem?_modify]
      simp only [em, List.getElem_map]
      by_cases h2 : j = i
      · subst h2
        rw [if_pos rfl, q1]
        have hmk : m[j].1 = k := by rw [(List.getElem?_eq_some_iff.1 b).2]
        exact ⟨_, rfl, by simp [hmk], by simp [hmk]; exact hv⟩
      · rw [if_neg h2]
        have hmk : m[i].1 ≠ k := by
          intro he
          have hnd2 := hm.nodup
          have hjk : m[j].1 = k := by rw [(List.getElem?_eq_some_iff.1 b).2]
          have hpw := List.pairwise_iff_getElem.1 hnd2
          rcases Nat.lt_trichotomy i j with hl | hl | hl
          · exact hpw i j (by simpa using hi') (by simpa using a) hl (by simp [he, hjk])
          · exact h2 hl.symm
          · exact hpw j i (by simpa using a) (by simpa using hi') hl (by simp [he, hjk])
        exact ⟨e1, q1, by simp [hmk, q2], by simp [hmk, q3]⟩
    · intro i e' he
      rw [Array.getElem?_modify] at he
      split at he
      · next h2 => subst h2; rw [hj] at he; simp at he; subst he; have := hborn j e hj; simpa using this
      · exact hborn i e' he
    · intro i i' e1 e2 h1 h2 hb
      have q : ∀ (i : Nat) (e' : MapEntry), (es.modify j fun e => { e with key := Key.v k, val := v })[i]? = some e' → ∃ e0, es[i]? = some e0 ∧ e0.born = e'.born := by
        intro i e' he
        rw [Array.getElem?_modify] at he
        split at he
        · next h2 => subst h2; rw [hj] at he; simp at he; subst he; exact ⟨e, hj, rfl⟩
        · exact ⟨e', he, rfl⟩
      obtain ⟨f1, g1, g2⟩ := q i e1 h1
      obtain ⟨f2, g3, g4⟩ := q i' e2 h2
      exact huniq i i' f1 f2 g1 g3 (by omega)
theorem MapO.empty : MapO vr (.map #[] 0) ([] : List (κ × α)) := ⟨⟨#[], 0, rfl, rfl, fun i h => by simp at h, fun i e h => by simp at h, fun i j e e' h => by simp at h⟩, by simp⟩
end
instance : LawfulBEq ByteArray where
  eq_of_beq := fun h => (MapKept.bytes_beq _ _).1 h
  rfl := (MapKept.bytes_beq _ _).2 rfl
end Go.Proofs.YtdlnhmcgnpjooaaGreatDoor

namespace Go.Proofs.YtdlnhmcgnpjooaaGreatDoor
open Go.RowKit Go.ChangeMaps
set_option linter.unusedVariables false
set_option linter.unusedSimpArgs false
section
variable {κ α : Type} [DecidableEq κ]
theorem mem_of_mget {m : List (κ × α)} {k : κ} {x : α} (h : mget m k = some x) : (k, x) ∈ m := by
  unfold mget at h
  obtain ⟨p, hp, rfl⟩ := Option.map_eq_some_iff.1 h
  have h1 := List.find?_some hp
  have h2 := List.mem_of_find?_eq_some hp
  simp at h1
  subst h1
  exact h2
theorem mget_of_mem : ∀ {m : List (κ × α)}, (m.map (·.1)).Nodup → ∀ {k : κ} {x : α}, (k, x) ∈ m → mget m k = some x
  | [], _, k, x, h => by simp at h
  | p :: m, hn, k, x, h => by
    rw [List.map_cons, List.nodup_cons] at hn
    rw [mget_cons]
    rcases List.mem_cons.1 h with h | h
    · subst h; rw [if_pos rfl]
    · rw [if_neg (fun e => hn.1 (by rw [e]; exact List.mem_map.2 ⟨_, h, rfl⟩)), mget_of_mem hn.2 h]
theorem filter_len {β γ : Type} (f : β → Bool) (g : γ → Bool) : ∀ (xs : List β) (ys : List γ), xs.length = ys.length → (∀ (i : Nat) (x : β) (y : γ), xs[i]? = some x → ys[i]? = some y → f x = g y) → (xs.filter f).length = (ys.filter g).length
  | [], [], _, _ => rfl
  | [], y :: ys, h, _ => by simp at h
  | x :: xs, [], h, _ => by simp at h
  | x :: xs, y :: ys, h, hp => by
    have h0 := hp 0 x y rfl rfl
    have ih := filter_len f g xs ys (by simpa using h) (fun i a b ha hb => hp (i + 1) a b ha hb)
    rw [List.filter_cons, List.filter_cons, h0]
    split <;> simp [ih]

theorem filter_lt {S : List κ} {m : List (κ × α)} {k : κ} {x : α} (h : (k, x) ∈ m) (hk : k ∉ S) : (m.filter (fun p => !decide (p.1 ∈ k :: S))).length < (m.filter (fun p => !decide (p.1 ∈ S))).length := by
  induction m with
  | nil => simp at h
  | cons p m ih =>
    have hle : (m.filter (fun p => !decide (p.1 ∈ k :: S))).length ≤ (m.filter (fun p => !decide (p.1 ∈ S))).length := by
      clear ih h
      induction m with
      | nil => simp
      | cons q m ih =>
        rw [List.filter_cons, List.filter_cons]
        by_cases h1 : q.1 ∈ S
        · simp [h1]; simpa using ih
        · by_cases h2 : q.1 = k
          · simp [h2, hk]; have := ih; simp at this; omega
          · simp [h1, h2]; simpa using ih
    rw [List.filter_cons, List.filter_cons]
    rcases List.mem_cons.1 h with h | h
    · subst h; simp [hk]; simp at hle; omega
    · have := ih h
      by_cases h1 : p.1 ∈ S
      · simp [h1]; simpa using this
      · by_cases h2 : p.1 = k
        · simp [h2, hk]; simp at this; omega
        · simp [h1, h2]; simpa using this
variable [Key κ]
/-- Block r goes over the map of block b, which reads as m; the keys of S have been met. -/
def RngW (vr : α → Value → Prop) (w : World) (b r : Nat) (m : List (κ × α)) (S : List κ) : Prop :=
  ∃ es clock since seen c0, w.heap[b]? = some (.map es clock) ∧ MapO vr (.map es clock) m ∧ w.heap[r]? = some (.mapIter (some b) since seen c0) ∧ (∀ x ∈ es.toList, x.born < since) ∧ since ≤ c0 ∧ since ≤ clock ∧
    ∀ (i : Nat) (e : MapEntry) (p : κ × α), es[i]? = some e → m[i]? = some p → (seen.contains e.born = decide (p.1 ∈ S))
variable {P : Program} {vr : α → Value → Prop} {w w' : World} {b r : Nat} {m : List (κ × α)} {S : List κ}
theorem RngW.lt (h : RngW vr w b r m S) : b < w.heap.size ∧ r < w.heap.size ∧ r ≠ b := by
  obtain ⟨es, clock, since, seen, c0, hb, _, hr, _⟩ := h
  refine ⟨(Array.getElem?_eq_some_iff.1 hb).1, (Array.getElem?_eq_some_iff.1 hr).1, fun e => ?_⟩
  rw [e, hb] at hr; cases hr
theorem RngW.kept (h : RngW vr w b r m S) (hb : w'.heap[b]? = w.heap[b]?) (hr : w'.heap[r]? = w.heap[r]?) : RngW vr w' b r m S := by
  obtain ⟨es, clock, since, seen, c0, h1, h2, h3, h4⟩ := h
  exact ⟨es, clock, since, seen, c0, hb.trans h1, h2, hr.trans h3, h4⟩
theorem RngW.callB (h : RngW vr w b r m S) (hb : Below w.heap.size w w') : RngW vr w' b r m S := h.kept (hb.block b h.lt.1) (hb.block r h.lt.2.1)
theorem RngW.start {T kt et : TypeId} (ht : P.underlying T = some (.map kt et)) {o : Obj} (hb : w.heap[b]? = some o) (hm : MapO vr o m) :
    ∃ o', (Instr.range T (.map (some b))).run P w = .ok (.pointer (some ⟨w.heap.size, 0, none⟩)) (w.alloc o') ∧ RngW vr (w.alloc o') b w.heap.size m ([] : List κ) := by
  obtain ⟨es, clock, rfl, hl, hat, hborn, huniq⟩ := hm.ex
  have hlt := (Array.getElem?_eq_some_iff.1 hb).1
  refine ⟨_, run_range_map w T kt et b es clock ht hb, es, clock, clock, #[], clock, (heap_alloc_old w _ hlt).trans hb, hm, heap_alloc_new w _, fun x hx => ?_, Nat.le_refl _, Nat.le_refl _, fun i e p _ _ => by simp⟩
  obtain ⟨i, hi, rfl⟩ := List.getElem_of_mem hx
  exact hborn i _ (by rw [← Array.getElem?_toList, List.getElem?_eq_getElem hi])
theorem RngW.left (h : RngW vr w b r m S) : w.rangeLeft b r = (m.filter (fun p => !decide (p.1 ∈ S))).length := by
  obtain ⟨es, clock, since, seen, c0, hb, hm, hr, _, _, _, hs⟩ := h
  obtain ⟨es', clock', he, hl, _⟩ := hm.ex
  cases he
  simp only [World.rangeLeft, hb, hr, leftOf]
  rw [← Array.length_toList, Array.toList_filter]
  refine filter_len _ _ _ _ (by simpa using hl) (fun i e p he hp => ?_)
  rw [hs i e p (by simpa using he) hp]
theorem RngW.next (h : RngW vr w b r m S) (ty : TypeId) :
    ((∀ k x, (k, x) ∈ m → k ∈ S) ∧ (Instr.next (.pointer (some ⟨r, 0, none⟩)) false ty).run P w = .ok (.tuple #[.bool false]) w) ∨
    ∃ k x v w', (k, x) ∈ m ∧ k ∉ S ∧ vr x v ∧ (Instr.next (.pointer (some ⟨r, 0, none⟩)) false ty).run P w = .ok (.tuple #[.bool true, Key.v k, v]) w' ∧ RngW vr w' b r m (k :: S) ∧ w.grownBy w' (some r) ∧ w'.heap.size = w.heap.size ∧ w'.rangeLeft b r < w.rangeLeft b r ∧
      (Instr.entry (.pointer (some ⟨r, 0, none⟩))).run P w' = .ok (.tuple #[Key.v k, v]) w' := by
  have hL := h.left
  have hne := h.lt.2.2
  obtain ⟨es, clock, since, seen, c0, hb, hm, hr, hold, hsc, hsk, hs⟩ := h
  obtain ⟨es', clock', he, hl, hat, hborn, huniq⟩ := hm.ex
  cases he
  rcases run_next_at (P := P) w ty r b since c0 seen es clock hr hb hold hsc with ⟨h0, hrun⟩ | ⟨e, he, w1, hw1, hrun⟩
  · refine .inl ⟨fun k x hkx => ?_, hrun⟩
    obtain ⟨i, hi, hie⟩ := List.getElem_of_mem hkx
    obtain ⟨e, he, _⟩ := hat i hi
    have := hs i e (k, x) he (by rw [List.getElem?_eq_getElem hi, hie])
    have hmem : e ∈ es.toList := Array.mem_toList_iff.2 (Array.mem_of_getElem? he)
    have hz : leftOf es seen = #[] := Array.eq_empty_of_size_eq_zero h0
    have hc : seen.contains e.born = true := by
      cases hcc : seen.contains e.born with
      | true => rfl
      | false =>
        have : e ∈ leftOf es seen := by unfold leftOf; rw [Array.mem_filter]; exact ⟨Array.mem_toList_iff.1 hmem, by rw [hcc]; rfl⟩
        rw [hz] at this; simp at this
    rw [hc] at this
    simpa using this.symm
  · right
    have he' : e ∈ es ∧ (!seen.contains e.born) = true := by
      have := Array.mem_toList_iff.1 he
      unfold leftOf at this
      rwa [Array.mem_filter] at this
    obtain ⟨i, hi, hie⟩ := Array.getElem_of_mem he'.1
    have hei : es[i]? = some e := by rw [Array.getElem?_eq_getElem hi, hie]
    have hil : i < m.length := by omega
    obtain ⟨e2, q1, q2, q3⟩ := hat i hil
    rw [hei] at q1; cases q1
    have hsi := hs i e m[i] hei (List.getElem?_eq_getElem hil)
    have hnS : m[i].1 ∉ S := by
      have := he'.2
      rw [hsi] at this
      simpa using this
    have hw1h : w1.heap = w.heap := by rcases hw1 with rfl | rfl <;> rfl
    have hw1s : w.grownBy w1 none := by rcases hw1 with rfl | rfl <;> exact ⟨rfl, rfl, rfl, Nat.le_refl _, fun _ _ _ => rfl⟩
    have hrlt := (Array.getElem?_eq_some_iff.1 hr).1
    have hnb : (setBlock w1 r (.mapIter (some b) since (seen.push e.born) clock)).heap[b]? = some (.map es clock) := by
      simp only [setBlock, hw1h]
      rw [Array.getElem?_setIfInBounds_ne hne]; exact hb
    have hnr : (setBlock w1 r (.mapIter (some b) since (seen.push e.born) clock)).heap[r]? = some (.mapIter (some b) since (seen.push e.born) clock) := by
      simp only [setBlock, hw1h]
      rw [Array.getElem?_setIfInBounds]; simp [hrlt]
    have hR : RngW vr (setBlock w1 r (.mapIter (some b) since (seen.push e.born) clock)) b r m (m[i].1 :: S) := by
      refine ⟨es, clock, since, _, _, hnb, hm, hnr, hold, hsk, hsk, fun j e' p he' hp => ?_⟩
      rw [Array.contains_push, hs j e' p he' hp]
      have key : (e.born == e'.born) = decide (p.1 = m[i].1) := by
        by_cases hij : j = i
        · subst hij
          rw [hei] at he'; cases he'
          rw [List.getElem?_eq_getElem hil] at hp; cases hp
          simp
        · have h1 : e.born ≠ e'.born := fun hb' => hij (huniq i j e e' hei he' hb').symm
          have h2 : p.1 ≠ m[i].1 := by
            intro hpe
            obtain ⟨hjl, rfl⟩ := List.getElem?_eq_some_iff.1 hp
            have hpw := List.pairwise_iff_getElem.1 hm.nodup
            rcases Nat.lt_or_gt_of_ne hij with hlt | hlt
            · exact hpw j i (by simpa using hjl) (by simpa using hil) hlt (by simpa using hpe)
            · exact hpw i j (by simpa using hil) (by simpa using hjl) hlt (by simpa using hpe.symm)
          simp [h1, h2]
      first
        | rw [key]; simp [Bool.or_comm]
        | (rw [show (e'.born == e.born) = (e.born == e'.born) from Bool.beq_comm .., key]; simp [Bool.or_comm])
    refine ⟨m[i].1, m[i].2, e.val, _, List.getElem_mem hil, hnS, q3, by rw [← q2]; exact hrun, hR, ?_, by simp [setBlock, hw1h], ?_, ?_⟩
    · refine ⟨hw1s.os, hw1s.tape, hw1s.output, by simp [setBlock, hw1h], fun k hk hkr => ?_⟩
      simp only [setBlock, hw1h]
      rw [Array.getElem?_setIfInBounds_ne (fun e => hkr (by rw [e]))]
    · rw [hR.left, hL]
      exact filter_lt (x := m[i].2) (List.getElem_mem hil) hnS
    · rw [← q2]
      refine run_entry_at _ r b since seen es clock e hnr hnb (Array.mem_toList_iff.2 he'.1) ?_
      rw [List.nodup_iff_pairwise_ne, List.pairwise_iff_getElem]
      intro p q hp hq hpq hb
      simp at hp hq hb
      have := huniq p q _ _ (Array.getElem?_eq_getElem hp) (Array.getElem?_eq_getElem hq) hb
      omega
end
end Go.Proofs.YtdlnhmcgnpjooaaGreatDoor

namespace Go.Proofs.YtdlnhmcgnpjooaaGreatDoor
open Go.RowKit
set_option linter.unusedVariables false
set_option linter.unusedSimpArgs false
def vH (x : Hdr) (v : Value) : Prop := v = .slice x.a x.n x.c
section
variable {κ α : Type} [DecidableEq κ] [Key κ] [Rep α]
/-- Block r is a map from keys to slices of the call's own: f; their headers: hd. No row lies in a block of Rv. -/
structure GrpW (E : TypeId) (B : Nat) (φ : Phi) (w : World) (r : Nat) (Rv : Nat → Prop) (hd : κ → Option Hdr) (f : κ → List α) : Prop where
  map : ∃ o M, w.heap[r]? = some o ∧ MapO vH o M ∧ ∀ k, mget M k = hd k
  none : ∀ k, hd k = .none → f k = []
  row : ∀ k h, hd k = some h → Own B φ w E h.a h.c (f k) ∧ h.n = (f k).length
  nm : ∀ k h x, hd k = some h → h.a = some x → x.block ≠ r ∧ ¬ Rv x.block
  nr : ∀ k k' h h' x y, k ≠ k' → hd k = some h → hd k' = some h' → h.a = some x → h'.a = some y → x.block ≠ y.block
  lo : B ≤ r
  fr : φ r = .none
def updK {β : Type} (f : κ → β) (k : κ) (x : β) : κ → β := fun k' => if k' = k then x else f k'
variable {E : TypeId} {B : Nat} {φ φ' : Phi} {w w' w0 : World} {r : Nat} {Rv Rv' : Nat → Prop} {hd : κ → Option Hdr} {f : κ → List α}
theorem GrpW.lt (h : GrpW E B φ w r Rv hd f) : r < w.heap.size := by obtain ⟨o, M, h1, _⟩ := h.map; exact (Array.getElem?_eq_some_iff.1 h1).1
theorem GrpW.new {φ0 : Phi} (hi : Inv B w0 φ0 φ w) : GrpW E B φ (w.alloc (.map #[] 0)) w.heap.size Rv (fun _ : κ => .none) (fun _ => ([] : List α)) :=
  ⟨⟨_, [], heap_alloc_new w _, MapO.empty, fun _ => rfl⟩, fun _ _ => rfl, fun _ _ h => (by cases h), fun _ _ _ h => (by cases h), fun _ _ _ _ _ _ _ h => (by cases h), hi.size, hi.fz.new_none (Nat.le_refl _)⟩
/-- Where the map's block, and the rows, are as they were. -/
theorem GrpW.kept (h : GrpW E B φ w r Rv hd f) (hl : φ.le φ') (hn : ∀ b, b < w.heap.size → φ b = .none → φ' b = .none) (hr : w'.heap[r]? = w.heap[r]?) (hb : ∀ k h' x, hd k = some h' → h'.a = some x → w'.heap[x.block]? = w.heap[x.block]?) : GrpW E B φ' w' r Rv hd f := by
  obtain ⟨o, M, h1, h2⟩ := h.map
  exact ⟨⟨o, M, hr.trans h1, h2⟩, h.none, fun k h' hk => ⟨(h.row k h' hk).1.kept hl hn (fun x hx => hb k h' x hk hx), (h.row k h' hk).2⟩, h.nm, h.nr, h.lo, hn r h.lt h.fr⟩
theorem GrpW.callB (h : GrpW E B φ w r Rv hd f) (hb : Below w.heap.size w w') : GrpW E B φ w' r Rv hd f :=
  h.kept φ.le_refl (fun _ _ q => q) (hb.block r h.lt) (fun k h' x hk hx => hb.block _ ((h.row k h' hk).1.lt x hx).2)
theorem GrpW.call (h : GrpW E B φ w r Rv hd f) (hi : Inv w.heap.size w φ φ' w') : GrpW E B φ' w' r Rv hd f :=
  h.kept hi.le (fun b hb hn => (hi.new b hb).trans hn) (hi.bel.block r h.lt) (fun k h' x hk hx => hi.bel.block _ ((h.row k h' hk).1.lt x hx).2)
/-- A write to a block that is reserved. -/
theorem GrpW.other (h : GrpW E B φ w r Rv hd f) {g : Option Nat} (hg : w.grownBy w' g) (hr : g ≠ some r) (hv : ∀ b, g = some b → Rv b) : GrpW E B φ w' r Rv hd f :=
  h.kept φ.le_refl (fun _ _ q => q) (hg.block r h.lt (fun e => hr e.symm)) (fun k h' x hk hx => hg.block _ ((h.row k h' hk).1.lt x hx).2 (fun e => (h.nm k h' x hk hx).2 (hv _ e.symm)))
/-- Other blocks reserved. -/
theorem GrpW.rv (h : GrpW E B φ w r Rv hd f) (hv : ∀ b, b < w.heap.size → Rv' b → Rv b) : GrpW E B φ w r Rv' hd f :=
  ⟨h.map, h.none, h.row, fun k h' x hk hx => ⟨(h.nm k h' x hk hx).1, fun q => (h.nm k h' x hk hx).2 (hv _ ((h.row k h' hk).1.lt x hx).2 q)⟩, h.nr, h.lo, h.fr⟩
section
variable {P : Program} {T kt et : TypeId}
/-- What a look-up gives. -/
theorem GrpW.look (h : GrpW E B φ w r Rv hd f) (ht : P.underlying T = some (.map kt et)) (hk : P.underlying kt = some (Key.d κ)) (hz : ∀ w, (zeroValue et).run P w = .ok (.slice .none 0 0) w) (k : κ) :
    ∃ a c, (∀ W, W.heap[r]? = w.heap[r]? → (Instr.lookup T (.map (some r)) (Key.v k) false).run P W = .ok (.slice a (f k).length c) W) ∧ Own B φ w E a c (f k) ∧ (hd k = some ⟨a, (f k).length, c⟩ ∨ (hd k = .none ∧ a = .none ∧ c = 0)) := by
  obtain ⟨o, M, h1, h2, h3⟩ := h.map
  cases hh : hd k with
  | none =>
    refine ⟨.none, 0, fun W hW => ?_, by rw [h.none k hh]; exact Own.nil _ _ _ _, .inr ⟨rfl, rfl, rfl⟩⟩
    rcases run_lookup (P := P) (w := W) ht hk (hW.trans h1) h2 k false (hz W) with ⟨x, v, q1, q2, q3⟩ | ⟨q1, q3⟩
    · rw [h3, hh] at q1; cases q1
    · rw [h.none k hh]; exact q3
  | some h' =>
    obtain ⟨g1, g2⟩ := h.row k h' hh
    refine ⟨h'.a, h'.c, fun W hW => ?_, g1, .inl (by rw [← g2])⟩
    rcases run_lookup (P := P) (w := W) ht hk (hW.trans h1) h2 k false (hz W) with ⟨x, v, q1, q2, q3⟩ | ⟨q1, q3⟩
    · rw [h3, hh] at q1; cases q1
      cases q2
      rw [← g2]; exact q3
    · rw [h3, hh] at q1; cases q1
/-- A key's row has grown, and is stored. -/
theorem GrpW.put (h : GrpW E B φ w r Rv hd f) (ht : P.underlying T = some (.map kt et)) (hk : P.underlying kt = some (Key.d κ)) {k : κ} {a : Option Addr} {c : Nat} (hh : hd k = some ⟨a, (f k).length, c⟩ ∨ (hd k = .none ∧ a = .none ∧ c = 0))
    {a' : Option Addr} {c' : Nat} {l : List α} {n : Nat} (hn : l.length = n) (ho : Own B φ w' E a' c' l) (hg : w.grownBy w' (a.map (·.block))) (hf : ∀ x, a' = some x → a.map (·.block) = some x.block ∨ w.heap.size ≤ x.block) (hrv : ∀ b, Rv b → b < w.heap.size) :
    ∃ o, (∀ W, W.heap[r]? = w.heap[r]? → (Instr.mapUpdate T (.map (some r)) (Key.v k) (.slice a' n c')).run P W = .ok () (setMap W r o)) ∧ GrpW E B φ (setMap w' r o) r Rv (updK hd k (some ⟨a', n, c'⟩)) (updK f k l) := by
  subst hn
  obtain ⟨o, M, h1, h2, h3⟩ := h.map
  have hlt := h.lt
  have hlt' : r < w'.heap.size := Nat.lt_of_lt_of_le hlt hg.size
  have hrow : ∀ x, a = some x → x.block < w.heap.size ∧ x.block ≠ r ∧ ¬ Rv x.block ∧ ∀ k' h' y, k' ≠ k → hd k' = some h' → h'.a = some y → y.block ≠ x.block := by
    intro x hx
    rcases hh with hh | ⟨_, e, _⟩
    · exact ⟨((h.row k _ hh).1.lt x hx).2, (h.nm k _ x hh hx).1, (h.nm k _ x hh hx).2, fun k' h' y hne hk' hy => h.nr k' k h' _ y x hne hk' hh hy hx⟩
    · rw [e] at hx; cases hx
  have hgr : some r ≠ a.map (·.block) := by
    cases a with
    | none => simp
    | some x => simpa using (hrow x rfl).2.1.symm
  have key := fun (W : World) (hW : W.heap[r]? = w.heap[r]?) => run_mapUpdate (P := P) (w := W) ht hk (hW.trans h1) h2 k (x := (⟨a', l.length, c'⟩ : Hdr)) (v := .slice a' l.length c') rfl
  have hnew : ∀ x, a' = some x → x.block ≠ r ∧ ¬ Rv x.block ∧ ∀ k' h' y, k' ≠ k → hd k' = some h' → h'.a = some y → y.block ≠ x.block := by
    intro x hx
    rcases hf x hx with q | q
    · cases a with
      | none => cases q
      | some z =>
        have e : z.block = x.block := by simpa using q
        have := hrow z rfl
        rw [e] at this
        exact ⟨this.2.1, this.2.2.1, this.2.2.2⟩
    · exact ⟨by omega, fun e => by have := hrv _ e; omega, fun k' h' y hne hk' hy => by have := ((h.row k' h' hk').1.lt y hy).2; omega⟩
  have hset := setMap_grown w' r (putObj (Key.d κ) o (Key.v k) (.slice a' l.length c'))
  refine ⟨_, fun W hW => (key W hW).1, ⟨⟨_, _, setMap_same _ hlt', (key w rfl).2, fun k' => ?_⟩, fun k' hk' => ?_, fun k' h' hk' => ?_, fun k' h' x hk' hx => ?_, fun k1 k2 g1 g2 x y hne e1 e2 e3 e4 => ?_, h.lo, h.fr⟩⟩
  · rw [mget_mput]; unfold updK; split
    · rfl
    · exact h3 k'
  · unfold updK at hk' ⊢
    split
    · next e => rw [if_pos e] at hk'; cases hk'
    · next e => rw [if_neg e] at hk'; exact h.none k' hk'
  · unfold updK at hk' ⊢
    split
    · next e =>
      rw [if_pos e] at hk'; cases hk'
      exact ⟨ho.other hset (fun x hx e => (hnew x hx).1 (by cases e; rfl)), rfl⟩
    · next e =>
      rw [if_neg e] at hk'
      obtain ⟨g1, g2⟩ := h.row k' h' hk'
      refine ⟨(g1.other hg (fun x hx e2 => ?_)).other hset (fun x hx e2 => (h.nm k' h' x hk' hx).1 (by cases e2; rfl)), g2⟩
      cases a with
      | none => cases e2
      | some z => exact (hrow z rfl).2.2.2 k' h' x e hk' hx (by simpa using e2)
  · unfold updK at hk'
    split at hk'
    · cases hk'; exact ⟨(hnew x hx).1, (hnew x hx).2.1⟩
    · exact h.nm k' h' x hk' hx
  · unfold updK at e1 e2
    split at e1
    · next q1 =>
      split at e2
      · next q2 => exact absurd (q1.trans q2.symm) hne
      · next q2 => cases e1; exact fun e => (hnew x e3).2.2 k2 g2 y q2 e2 e4 e.symm
    · next q1 =>
      split at e2
      · next q2 => cases e2; exact (hnew y e4).2.2 k1 g1 x q1 e1 e3
      · exact h.nr k1 k2 g1 g2 x y hne e1 e2 e3 e4
end
end
end Go.Proofs.YtdlnhmcgnpjooaaGreatDoor
