/- A map's keys as the library's contracts on maps ask for them; rows that the library sorts. Conditions: none; plain Lean over the guide's library. -/
import Derived.Test.YtnlhalnjbkpdnaaDoorMap
import Derived.Test.YtnlhalnjbkpdnaaDoorBase
import Derived.Test.YtnlhalnjbkpdnaaDoorZ0
import Derived.Maps.Own
import Derived.Sort.KeysCollected
import Derived.Lib.SlKeysI
namespace Go.Proofs.YtnlhalnjbkpdnaaDoor
open Go.RowKit Go.Sort
set_option linter.unusedVariables false
set_option linter.unusedSimpArgs false
/-- A map, read through a reader that looks at no value. -/
theorem MapO.ownsL {κ α : Type} [KeyV κ] {vr : α → Value → Prop} {o : Obj} {M : List (κ × α)} {P : Program} {k : TypeId} {w : World} {b : Nat} (lit : κ → Lit) (hi : ∀ x y : κ, KeyV.v x = KeyV.v y → x = y) (h : MapO vr o M) (hb : w.heap[b]? = some o) (hl : M.length ≤ maxLen) (hk : ∀ p ∈ M, keyOf P k (KeyV.v p.1) = some (lit p.1)) :
    ∃ es : List (Lit × DataW Unit), w.ownsMap P k (fun _ => some (.nil, [])) b M.length (.map es) ∧ es.Perm (M.map (fun p => (lit p.1, .nil))) := by
  obtain ⟨es, clock, rfl, hsz, hx, hbn, hin⟩ := h.ex
  have hkey : es.toList.map (·.key) = M.map (fun p => KeyV.v p.1) := by
    apply List.ext_getElem (by simp [hsz])
    intro i h1 h2
    have hi' : i < M.length := by simpa using h2
    obtain ⟨e, e1, e2, _⟩ := hx i hi'
    have : es[i]'(by omega) = e := (Array.getElem?_eq_some_iff.1 e1).2
    simp [this, e2]
  have hrd : ∀ x ∈ es.toList, ∃ p ∈ M, x.key = KeyV.v p.1 := by
    intro x hx'
    have : x.key ∈ es.toList.map (·.key) := List.mem_map.2 ⟨x, hx', rfl⟩
    rw [hkey] at this
    obtain ⟨p, hp, e⟩ := List.mem_map.1 this
    exact ⟨p, hp, e.symm⟩
  have hrg : es.toList.map (WideElems.rg (H := Unit) P k (fun _ => some (.nil, []))) = M.map (fun p => (lit p.1, .nil)) := by
    apply List.ext_getElem (by simp [hsz])
    intro i h1 h2
    have hi' : i < M.length := by simpa using h2
    obtain ⟨e, e1, e2, _⟩ := hx i hi'
    have : es[i]'(by omega) = e := (Array.getElem?_eq_some_iff.1 e1).2
    simp [this, WideElems.rg, WideElems.rd, e2, hk _ (List.getElem_mem hi')]
  have hF : WideElems.Fit (H := Unit) P k (fun _ => some (.nil, [])) es clock := by
    refine ⟨by omega, ⟨fun x hx' => ?_, ?_, ?_⟩, fun x hx' => ?_⟩
    · obtain ⟨i, hi', e⟩ := List.getElem_of_mem hx'
      exact hbn i x (by rw [Array.getElem?_eq_getElem (by simpa using hi')]; rw [← e]; simp)
    · rw [List.nodup_iff_pairwise_ne, List.pairwise_iff_getElem]
      intro i j h1 h2 hij e
      have h1' : i < es.size := by simpa using h1
      have h2' : j < es.size := by simpa using h2
      have := hin i j (es[i]) (es[j]) (Array.getElem?_eq_getElem h1') (Array.getElem?_eq_getElem h2') (by simpa using e)
      omega
    · rw [hkey]
      have := h.nodup
      rw [List.nodup_iff_pairwise_ne, List.pairwise_map] at this ⊢
      exact this.imp (fun {a b} q e => q (hi _ _ e))
    · obtain ⟨p, hp, e⟩ := hrd x hx'
      exact ⟨(lit p.1, .nil), by simp [WideElems.rd, e, hk p hp]⟩
  exact ⟨_, ⟨es, clock, hb, hF, by omega, rfl⟩, by rw [hrg]; exact WideShapes.sorted_perm _⟩
theorem MapO.owns_str {α : Type} {vr : α → Value → Prop} {o : Obj} {M : List (ByteArray × α)} {P : Program} {k : TypeId} {w : World} {b : Nat} (h : MapO vr o M) (hb : w.heap[b]? = some o) (hu : P.underlying k = some .string) (hl : M.length ≤ maxLen) (hs : ∀ p ∈ M, p.1.size ≤ maxLen) :
    ∃ D : DataW Unit, w.ownsMap P k (fun _ => some (.nil, [])) b M.length D ∧ (strKeys D).Perm (M.map (fun p => p.1.data.toList)) ∧ Maps.size D = M.length := by
  obtain ⟨es, h1, h2⟩ := h.ownsL (P := P) (k := k) (fun s : ByteArray => Lit.string s.data.toList) (fun x y e => by injection e) hb hl (fun p hp => WideMaps.keyOf_string_mk hu (hs p hp))
  refine ⟨_, h1, ?_, ?_⟩
  · have := h2.map (fun p => strOf p.1)
    rw [List.map_map] at this
    exact this
  · have := h2.length_eq
    rw [List.length_map] at this
    exact this
theorem MapO.owns_int {α : Type} {vr : α → Value → Prop} {o : Obj} {M : List (Int × α)} {P : Program} {k : TypeId} {w : World} {b : Nat} (h : MapO vr o M) (hb : w.heap[b]? = some o) (hu : P.underlying k = some (.int .i64)) (hl : M.length ≤ maxLen) (hs : ∀ p ∈ M, IsI64 p.1) :
    ∃ D : DataW Unit, w.ownsMap P k (fun _ => some (.nil, [])) b M.length D ∧ (intKeys D).Perm (M.map (·.1)) ∧ Maps.size D = M.length := by
  obtain ⟨es, h1, h2⟩ := h.ownsL (P := P) (k := k) (fun s : Int => Lit.int .i64 s) (fun x y e => by injection e) hb hl (fun p hp => Maps.keyOf_int_mk hu (by have := hs p hp; simp [Lit.wf, IsI64, IntKind.min, IntKind.max, IntKind.signed, IntKind.bits] at *; omega))
  refine ⟨_, h1, ?_, ?_⟩
  · have := h2.map (fun p => _root_.Go.intOf p.1)
    rw [List.map_map] at this
    exact this
  · have := h2.length_eq
    rw [List.length_map] at this
    exact this
end Go.Proofs.YtnlhalnjbkpdnaaDoor
