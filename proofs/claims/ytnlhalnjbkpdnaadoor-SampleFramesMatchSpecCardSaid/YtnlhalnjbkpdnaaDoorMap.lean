/- Maps as lists of pairs: what a map's block reads as, and what looking up, storing, making and counting do. Conditions: none; plain Lean over the guide's library. -/
import Derived.Test.YtnlhalnjbkpdnaaDoorMem
import Derived.MapKept
import Derived.Carry
namespace Go.Proofs.YtnlhalnjbkpdnaaDoor
open Go.RowKit
set_option linter.unusedVariables false
set_option linter.unusedSimpArgs false

/-- A type of keys. -/
class KeyV (κ : Type) where
  v : κ → Value
class Key (κ : Type) [DecidableEq κ] extends KeyV κ where
  d : TypeDesc
  same : ∀ a b : κ, Instr.sameNow d (v a) (v b) = some (decide (a = b))
  isKey : ∀ a, MapKept.IsKey d (v a)
  bits : ∀ n (a : κ), Instr.sameBits n (v a) (v a) = true
instance : Key Int where
  v := fun n => .int .i64 n
  d := .int .i64
  same := by intro a b; simp [Instr.sameNow]; rw [Bool.eq_iff_iff]; simp
  isKey := fun a => rfl
  bits := by intro n a; cases n <;> simp [Instr.sameBits]
instance : Key ByteArray where
  v := fun s => .string s
  d := .string
  same := by intro a b; simp [Instr.sameNow]; rw [Bool.eq_iff_iff]; simp [MapKept.bytes_beq]
  isKey := fun a => trivial
  bits := by intro n a; cases n <;> simp [Instr.sameBits, MapKept.bytes_beq]

section
variable {κ α : Type} [DecidableEq κ]
def mget (m : List (κ × α)) (k : κ) : Option α := (m.find? (fun p => decide (p.1 = k))).map (·.2)
def mput (m : List (κ × α)) (k : κ) (x : α) : List (κ × α) := if (mget m k).isSome then m.map (fun p => if p.1 = k then (k, x) else p) else m ++ [(k, x)]
theorem mget_nil (k : κ) : mget ([] : List (κ × α)) k = none := rfl
theorem mget_cons (p : κ × α) (m : List (κ × α)) (k : κ) : mget (p :: m) k = if p.1 = k then some p.2 else mget m k := by
  unfold mget
  rw [List.find?_cons]
  by_cases h : p.1 = k <;> simp [h]
theorem mget_append (a b : List (κ × α)) (k : κ) : mget (a ++ b) k = (mget a k).or (mget b k) := by
  induction a with
  | nil => simp [mget_nil]
  | cons p a ih => rw [List.cons_append, mget_cons, mget_cons, ih]; split <;> simp
theorem mget_map_ne (m : List (κ × α)) (k k' : κ) (x : α) (h : k' ≠ k) : mget (m.map (fun p => if p.1 = k then (k, x) else p)) k' = mget m k' := by
  induction m with
  | nil => rfl
  | cons p m ih =>
    rw [List.map_cons, mget_cons, mget_cons, ih]
    by_cases e : p.1 = k
    · rw [if_pos e, if_neg (fun e2 => h e2.symm), if_neg (fun e2 => h (e2.symm.trans e))]
    · rw [if_neg e]
theorem mget_map_eq (m : List (κ × α)) (k : κ) (x : α) (h : (mget m k).isSome = true) : mget (m.map (fun p => if p.1 = k then (k, x) else p)) k = some x := by
  induction m with
  | nil => simp [mget_nil] at h
  | cons p m ih =>
    rw [List.map_cons, mget_cons]
    by_cases e : p.1 = k
    · rw [if_pos e]; simp
    · rw [if_neg e, if_neg e]
      rw [mget_cons, if_neg e] at h
      exact ih h
theorem mget_mput (m : List (κ × α)) (k k' : κ) (x : α) : mget (mput m k x) k' = if k' = k then some x else mget m k' := by
  unfold mput
  by_cases h : (mget m k).isSome = true
  · rw [if_pos h]
    by_cases e : k' = k
    · subst e; rw [if_pos rfl]; exact mget_map_eq m k' x h
    · rw [if_neg e]; exact mget_map_ne m k k' x e
  · rw [if_neg h, mget_append, mget_cons, mget_nil]
    have hn : mget m k = none := by cases hh : mget m k <;> simp_all
    by_cases e : k' = k
    · subst e; rw [hn]; simp
    · rw [if_neg (fun e2 => e e2.symm), if_neg e]; simp
theorem keys_map (m : List (κ × α)) (k : κ) (x : α) : (m.map (fun p => if p.1 = k then (k, x) else p)).map (·.1) = m.map (·.1) := by
  rw [List.map_map]
  apply List.map_congr_left
  intro p _
  simp only [Function.comp]
  split
  · next h => exact h.symm
  · rfl
theorem mget_none_notMem (m : List (κ × α)) (k : κ) (h : mget m k = none) : k ∉ m.map (·.1) := by
  intro hm
  obtain ⟨p, hp, rfl⟩ := List.mem_map.1 hm
  unfold mget at h
  rw [Option.map_eq_none_iff, List.find?_eq_none] at h
  exact h p hp (by simp)
theorem mput_nodup (m : List (κ × α)) (k : κ) (x : α) (h : (m.map (·.1)).Nodup) : ((mput m k x).map (·.1)).Nodup := by
  unfold mput
  split
  · rw [keys_map]; exact h
  · next hn =>
    have hn : mget m k = none := by cases hh : mget m k <;> simp_all
    have := mget_none_notMem m k hn
    rw [List.map_append, List.nodup_append]
    refine ⟨h, by simp, ?_⟩
    intro a ha b hb
    simp at hb
    subst hb
    intro e
    subst e
    exact this ha

end

section
variable {κ α : Type} [KeyV κ]

/-- What a map's entries say: pairs of a key and a value, in their order. -/
structure MapO (vr : α → Value → Prop) (o : Obj) (m : List (κ × α)) : Prop where
  ex : ∃ (es : Array MapEntry) (clock : Nat), o = .map es clock ∧ es.size = m.length ∧
    (∀ i (h : i < m.length), ∃ e, es[i]? = some e ∧ e.key = KeyV.v m[i].1 ∧ vr m[i].2 e.val) ∧ (∀ (i : Nat) (e : MapEntry), es[i]? = some e → e.born < clock) ∧ (∀ (i j : Nat) (e e' : MapEntry), es[i]? = some e → es[j]? = some e' → e.born = e'.born → i = j)
  nodup : (m.map (·.1)).Nodup

theorem MapO.empty {vr : α → Value → Prop} : MapO vr (.map #[] 0) ([] : List (κ × α)) := ⟨⟨#[], 0, rfl, rfl, fun i h => by simp at h, fun i e h => by simp at h, fun i j e e' h => by simp at h⟩, by simp⟩
end
section
variable {κ α : Type} [DecidableEq κ] [Key κ]
/-- Where a key lies. -/
theorem findNow_spec (vr : α → Value → Prop) (k : κ) : ∀ (es : List MapEntry) (m : List (κ × α)) (i : Nat), es.length = m.length → (∀ j (h : j < m.length), ∃ e, es[j]? = some e ∧ e.key = KeyV.v m[j].1 ∧ vr m[j].2 e.val) →
    (mget m k = none ∧ Instr.findNow (Key.d κ) (KeyV.v k) es i = some none) ∨
    ∃ j x e, j < m.length ∧ m[j]? = some (k, x) ∧ es[j]? = some e ∧ vr x e.val ∧ mget m k = some x ∧ Instr.findNow (Key.d κ) (KeyV.v k) es i = some (some (i + j, e.val))
  | [], [], i, _, _ => .inl ⟨rfl, rfl⟩
  | [], p :: m, i, hl, _ => by simp at hl
  | e :: es, [], i, hl, _ => by simp at hl
  | e :: es, p :: m, i, hl, h => by
    obtain ⟨e0, h0, hk, hv⟩ := h 0 (by simp)
    simp at h0 hk hv
    subst h0
    simp only [Instr.findNow, hk, Key.same]
    by_cases hkk : k = p.1
    · subst hkk
      right
      refine ⟨0, p.2, e, by simp, by simp, by simp, hv, by rw [mget_cons, if_pos rfl], by simp⟩
    · rw [decide_eq_false hkk]
      rcases findNow_spec vr k es m (i + 1) (by simpa using hl) (fun j hj => by
        obtain ⟨e', q⟩ := h (j + 1) (by simp; omega)
        exact ⟨e', by simpa using q⟩) with ⟨a, b⟩ | ⟨j, x, e', a, b, c, d', f, g⟩
      · exact .inl ⟨by rw [mget_cons, if_neg (fun e => hkk e.symm)]; exact a, by simpa using b⟩
      · refine .inr ⟨j + 1, x, e', by simp; omega, by simpa using b, by simpa using c, d', by rw [mget_cons, if_neg (fun e => hkk e.symm)]; exact f, ?_⟩
        rw [show i + (j + 1) = i + 1 + j by omega]; simpa using g

/-- The world with a map's block set. -/
def setMap (w : World) (r : Nat) (o : Obj) : World := { w with heap := w.heap.setIfInBounds r o }
theorem setMap_same {w : World} {r : Nat} (o : Obj) (h : r < w.heap.size) : (setMap w r o).heap[r]? = some o := by
  simp [setMap, h]
theorem setMap_grown (w : World) (r : Nat) (o : Obj) : w.grownBy (setMap w r o) (some r) :=
  ⟨rfl, rfl, rfl, by simp [setMap], fun k _ hk => by simp only [setMap]; rw [Array.getElem?_setIfInBounds_ne (fun e => hk (by rw [e]))]⟩
theorem setMap_size (w : World) (r : Nat) (o : Obj) : (setMap w r o).heap.size = w.heap.size := by simp [setMap]

variable {P : Program} {w : World} {vr : α → Value → Prop} {T kt et : TypeId}
theorem run_lookup (ht : P.underlying T = some (.map kt et)) (hk : P.underlying kt = some (Key.d κ)) {r : Nat} {o : Obj} (hr : w.heap[r]? = some o) {m : List (κ × α)} (hm : MapO vr o m) (k : κ) (ok : Bool) {z : Value} (hz : (zeroValue et).run P w = .ok z w) :
    (∃ x v, mget m k = some x ∧ vr x v ∧ (Instr.lookup T (.map (some r)) (KeyV.v k) ok).run P w = .ok (if ok then .tuple #[v, .bool true] else v) w) ∨
    (mget m k = none ∧ (Instr.lookup T (.map (some r)) (KeyV.v k) ok).run P w = .ok (if ok then .tuple #[z, .bool false] else z) w) := by
  obtain ⟨es, clock, rfl, hlen, hat, _, _⟩ := hm.ex
  have hg : ∀ (w : World), w.heap[r]? = some (.map es clock) → (getObj r).run P w = .ok (.map es clock) w := fun w h => by simp only [getObj, Sem.run, h]
  rcases findNow_spec vr k es.toList m 0 (by simpa using hlen) (fun j hj => by obtain ⟨e, a, b⟩ := hat j hj; exact ⟨e, by simpa using a, b⟩) with ⟨a, b⟩ | ⟨j, x, e, a, b, c, d, f, g⟩
  · right
    refine ⟨a, ?_⟩
    unfold Instr.lookup Instr.findKey
    simp only [Sem.run_bind, run_underlying ht, run_underlying hk, Result.andThen, hg w hr, MapKept.run_checkKey hk (Key.isKey k), b, Sem.run_pure, hz]
  · left
    refine ⟨x, e.val, f, d, ?_⟩
    unfold Instr.lookup Instr.findKey
    simp only [Sem.run_bind, run_underlying ht, run_underlying hk, Result.andThen, hg w hr, MapKept.run_checkKey hk (Key.isKey k), g, Sem.run_pure]
theorem run_lookup_nil (ht : P.underlying T = some (.map kt et)) (hk : P.underlying kt = some (Key.d κ)) (k : κ) (ok : Bool) {z : Value} (hz : (zeroValue et).run P w = .ok z w) :
    (Instr.lookup T (.map none) (KeyV.v k) ok).run P w = .ok (if ok then .tuple #[z, .bool false] else z) w := by
  unfold Instr.lookup Instr.findKey
  simp only [Sem.run_bind, run_underlying ht, run_underlying hk, Result.andThen, MapKept.run_checkKey hk (Key.isKey k), Sem.run_pure, Instr.findNow, hz]
/-- A map's block behind a store. -/
def putObj (d : TypeDesc) (o : Obj) (key v : Value) : Obj :=
  match o with
  | .map es clock =>
    match Instr.findNow d key es.toList 0 with
    | some (some (i, _)) => .map (es.modify i fun e => { e with key := key, val := v }) clock
    | _ => .map (es.push { key := key, val := v, born := clock }) (clock + 1)
  | o => o
theorem run_mapUpdate (ht : P.underlying T = some (.map kt et)) (hk : P.underlying kt = some (Key.d κ)) {r : Nat} {o : Obj} (hr : w.heap[r]? = some o) {m : List (κ × α)} (hm : MapO vr o m) (k : κ) {x : α} {v : Value} (hv : vr x v) :
    (Instr.mapUpdate T (.map (some r)) (KeyV.v k) v).run P w = .ok () (setMap w r (putObj (Key.d κ) o (KeyV.v k) v)) ∧ MapO vr (putObj (Key.d κ) o (KeyV.v k) v) (mput m k x) := by
  obtain ⟨es, clock, rfl, hlen, hat, hborn, huniq⟩ := hm.ex
  have hg : (getObj r).run P w = .ok (.map es clock) w := by simp only [getObj, Sem.run, hr]
  have hs : ∀ o', (setObj r o').run P w = .ok () (setMap w r o') := fun o' => by simp only [setObj, Sem.run, hr, setMap]
  have hnd := mput_nodup m k x hm.nodup
  rcases findNow_spec vr k es.toList m 0 (by simpa using hlen) (fun j hj => by obtain ⟨e, a, b⟩ := hat j hj; exact ⟨e, by simpa using a, b⟩) with ⟨a, b⟩ | ⟨j, x0, e, a, b, c, d, f, g⟩
  · have hp : putObj (Key.d κ) (.map es clock) (KeyV.v k) v = .map (es.push { key := KeyV.v k, val := v, born := clock }) (clock + 1) := by simp only [putObj, b]
    rw [hp]
    refine ⟨?_, ⟨⟨_, _, rfl, ?_, ?_, ?_, ?_⟩, hnd⟩⟩
    · unfold Instr.mapUpdate Instr.findKey
      simp only [Sem.run_bind, run_underlying ht, run_underlying hk, Result.andThen, hg, MapKept.run_checkKey hk (Key.isKey k), b, Sem.run_pure, hs]
    · rw [mput, a]; simp [hlen]
    · intro i hi
      have em : mput m k x = m ++ [(k, x)] := by rw [mput, a]; rfl
      rw [Array.getElem?_push]
      by_cases h2 : i = es.size
      · subst h2
        refine ⟨_, if_pos rfl, ?_, ?_⟩
        · simp [em, hlen]
        · simp [em, hlen]; exact hv
      · have hi' : i < m.length := by simp [em] at hi; omega
        obtain ⟨e, q1, q2, q3⟩ := hat i hi'
        refine ⟨e, by rw [if_neg h2]; exact q1, ?_, ?_⟩
        · simp only [em]; rw [List.getElem_append_left hi']; exact q2
        · simp only [em]; rw [List.getElem_append_left hi']; exact q3
    · intro i e he
      rw [Array.getElem?_push] at he
      split at he
      · cases he; simp
      · have := hborn i e he; omega
    · intro i j e e' he he' hb
      rw [Array.getElem?_push] at he he'
      split at he
      · split at he'
        · omega
        · cases he; have := hborn j e' he'; simp at hb; omega
      · split at he'
        · cases he'; have := hborn i e he; simp at hb; omega
        · exact huniq i j e e' he he' hb
  · have hj : es[j]? = some e := by simpa using c
    have hkey : e.key = KeyV.v k := by
      obtain ⟨e', q1, q2, _⟩ := hat j a
      rw [hj] at q1; cases q1
      rw [q2]
      have := (List.getElem?_eq_some_iff.1 b).2
      rw [this]
    have em : mput m k x = m.map (fun p => if p.1 = k then (k, x) else p) := by rw [mput, f]; rfl
    have hp : putObj (Key.d κ) (.map es clock) (KeyV.v k) v = .map (es.modify j fun e => { e with key := KeyV.v k, val := v }) clock := by simp only [putObj, g, Nat.zero_add]
    rw [hp]
    refine ⟨?_, ⟨⟨_, _, rfl, ?_, ?_, ?_, ?_⟩, hnd⟩⟩
    · unfold Instr.mapUpdate Instr.findKey Instr.keyThatStays
      simp only [Sem.run_bind, run_underlying ht, run_underlying hk, Result.andThen, hg, MapKept.run_checkKey hk (Key.isKey k), g, Sem.run_pure, Nat.zero_add, hj, Option.map_some, Option.getD_some, hkey, Key.bits, if_true, hs]
    · rw [em]; simp [hlen]
    · intro i hi
      have hi' : i < m.length := by rw [em] at hi; simpa using hi
      obtain ⟨e1, q1, q2, q3⟩ := hat i hi'
      rw [Array.getElem?_modify]
      simp only [em, List.getElem_map]
      by_cases h2 : j = i
      · subst h2
        rw [if_pos rfl, q1]
        have hmk : m[j].1 = k := by rw [(List.getElem?_eq_some_iff.1 b).2]
        exact ⟨_, rfl, by simp [hmk], by simp [hmk]; exact hv⟩
      · rw [if_neg h2]
        have hmk : m[i].1 ≠ k := by
          intro he
          have hnd2 := hm.nodup
          have hjk : m[j].1 = k := by rw [(List.getElem?_eq_some_iff.1 b).2]
          have hpw := List.pairwise_iff_getElem.1 hnd2
          rcases Nat.lt_trichotomy i j with hl | hl | hl
          · exact hpw i j (by simpa using hi') (by simpa using a) hl (by simp [he, hjk])
          · exact h2 hl.symm
          · exact hpw j i (by simpa using a) (by simpa using hi') hl (by simp [he, hjk])
        exact ⟨e1, q1, by simp [hmk, q2], by simp [hmk, q3]⟩
    · intro i e' he
      rw [Array.getElem?_modify] at he
      split at he
      · next h2 => subst h2; rw [hj] at he; simp at he; subst he; have := hborn j e hj; simpa using this
      · exact hborn i e' he
    · intro i i' e1 e2 h1 h2 hb
      have q : ∀ (i : Nat) (e' : MapEntry), (es.modify j fun e => { e with key := KeyV.v k, val := v })[i]? = some e' → ∃ e0, es[i]? = some e0 ∧ e0.born = e'.born := by
        intro i e' he
        rw [Array.getElem?_modify] at he
        split at he
        · next h2 => subst h2; rw [hj] at he; simp at he; subst he; exact ⟨e, hj, rfl⟩
        · exact ⟨e', he, rfl⟩
      obtain ⟨f1, g1, g2⟩ := q i e1 h1
      obtain ⟨f2, g3, g4⟩ := q i' e2 h2
      exact huniq i i' f1 f2 g1 g3 (by omega)
end
instance : LawfulBEq ByteArray where
  eq_of_beq := fun h => (MapKept.bytes_beq _ _).1 h
  rfl := (MapKept.bytes_beq _ _).2 rfl
end Go.Proofs.YtnlhalnjbkpdnaaDoor
