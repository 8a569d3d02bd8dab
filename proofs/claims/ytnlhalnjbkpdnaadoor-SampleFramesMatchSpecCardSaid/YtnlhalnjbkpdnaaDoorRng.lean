/- Ranging over maps as lists of pairs. Conditions: none; plain Lean over the guide's library. -/
import Derived.Test.YtnlhalnjbkpdnaaDoorMap
import Derived.Maps.RangeWalk
namespace Go.Proofs.YtnlhalnjbkpdnaaDoor
open Go.RowKit Go.ChangeMaps
set_option linter.unusedVariables false
set_option linter.unusedSimpArgs false
section
variable {κ α : Type} [DecidableEq κ]
theorem mem_of_mget {m : List (κ × α)} {k : κ} {x : α} (h : mget m k = some x) : (k, x) ∈ m := by
  unfold mget at h
  obtain ⟨p, hp, rfl⟩ := Option.map_eq_some_iff.1 h
  have h1 := List.find?_some hp
  have h2 := List.mem_of_find?_eq_some hp
  simp at h1
  subst h1
  exact h2
theorem mget_of_mem : ∀ {m : List (κ × α)}, (m.map (·.1)).Nodup → ∀ {k : κ} {x : α}, (k, x) ∈ m → mget m k = some x
  | [], _, k, x, h => by simp at h
  | p :: m, hn, k, x, h => by
    rw [List.map_cons, List.nodup_cons] at hn
    rw [mget_cons]
    rcases List.mem_cons.1 h with h | h
    · subst h; rw [if_pos rfl]
    · rw [if_neg (fun e => hn.1 (by rw [e]; exact List.mem_map.2 ⟨_, h, rfl⟩)), mget_of_mem hn.2 h]
theorem filter_len {β γ : Type} (f : β → Bool) (g : γ → Bool) : ∀ (xs : List β) (ys : List γ), xs.length = ys.length → (∀ (i : Nat) (x : β) (y : γ), xs[i]? = some x → ys[i]? = some y → f x = g y) → (xs.filter f).length = (ys.filter g).length
  | [], [], _, _ => rfl
  | [], y :: ys, h, _ => by simp at h
  | x :: xs, [], h, _ => by simp at h
  | x :: xs, y :: ys, h, hp => by
    have h0 := hp 0 x y rfl rfl
    have ih := filter_len f g xs ys (by simpa using h) (fun i a b ha hb => hp (i + 1) a b ha hb)
    rw [List.filter_cons, List.filter_cons, h0]
    split <;> simp [ih]

theorem filter_lt {S : List κ} {m : List (κ × α)} {k : κ} {x : α} (h : (k, x) ∈ m) (hk : k ∉ S) : (m.filter (fun p => !decide (p.1 ∈ k :: S))).length < (m.filter (fun p => !decide (p.1 ∈ S))).length := by
  induction m with
  | nil => simp at h
  | cons p m ih =>
    have hle : (m.filter (fun p => !decide (p.1 ∈ k :: S))).length ≤ (m.filter (fun p => !decide (p.1 ∈ S))).length := by
      clear ih h
      induction m with
      | nil => simp
      | cons q m ih =>
        rw [List.filter_cons, List.filter_cons]
        by_cases h1 : q.1 ∈ S
        · simp [h1]; simpa using ih
        · by_cases h2 : q.1 = k
          · simp [h2, hk]; have := ih; simp at this; omega
          · simp [h1, h2]; simpa using ih
    rw [List.filter_cons, List.filter_cons]
    rcases List.mem_cons.1 h with h | h
    · subst h; simp [hk]; simp at hle; omega
    · have := ih h
      by_cases h1 : p.1 ∈ S
      · simp [h1]; simpa using this
      · by_cases h2 : p.1 = k
        · simp [h2, hk]; simp at this; omega
        · simp [h1, h2]; simpa using this
variable [KeyV κ]
/-- Block r goes over the map of block b, which reads as m; the keys of S have been met. -/
def RngW (vr : α → Value → Prop) (w : World) (b r : Nat) (m : List (κ × α)) (S : List κ) : Prop :=
  ∃ es clock since seen c0, w.heap[b]? = some (.map es clock) ∧ MapO vr (.map es clock) m ∧ w.heap[r]? = some (.mapIter (some b) since seen c0) ∧ (∀ x ∈ es.toList, x.born < since) ∧ since ≤ c0 ∧ since ≤ clock ∧
    ∀ (i : Nat) (e : MapEntry) (p : κ × α), es[i]? = some e → m[i]? = some p → (seen.contains e.born = decide (p.1 ∈ S))
variable {P : Program} {vr : α → Value → Prop} {w w' : World} {b r : Nat} {m : List (κ × α)} {S : List κ}
theorem RngW.lt (h : RngW vr w b r m S) : b < w.heap.size ∧ r < w.heap.size ∧ r ≠ b := by
  obtain ⟨es, clock, since, seen, c0, hb, _, hr, _⟩ := h
  refine ⟨(Array.getElem?_eq_some_iff.1 hb).1, (Array.getElem?_eq_some_iff.1 hr).1, fun e => ?_⟩
  rw [e, hb] at hr; cases hr
theorem RngW.kept (h : RngW vr w b r m S) (hb : w'.heap[b]? = w.heap[b]?) (hr : w'.heap[r]? = w.heap[r]?) : RngW vr w' b r m S := by
  obtain ⟨es, clock, since, seen, c0, h1, h2, h3, h4⟩ := h
  exact ⟨es, clock, since, seen, c0, hb.trans h1, h2, hr.trans h3, h4⟩
theorem RngW.callB (h : RngW vr w b r m S) (hb : Below w.heap.size w w') : RngW vr w' b r m S := h.kept (hb.block b h.lt.1) (hb.block r h.lt.2.1)
theorem RngW.start {T kt et : TypeId} (ht : P.underlying T = some (.map kt et)) {o : Obj} (hb : w.heap[b]? = some o) (hm : MapO vr o m) :
    ∃ o', (Instr.range T (.map (some b))).run P w = .ok (.pointer (some ⟨w.heap.size, 0, none⟩)) (w.alloc o') ∧ RngW vr (w.alloc o') b w.heap.size m ([] : List κ) := by
  obtain ⟨es, clock, rfl, hl, hat, hborn, huniq⟩ := hm.ex
  have hlt := (Array.getElem?_eq_some_iff.1 hb).1
  refine ⟨_, run_range_map w T kt et b es clock ht hb, es, clock, clock, #[], clock, (heap_alloc_old w _ hlt).trans hb, hm, heap_alloc_new w _, fun x hx => ?_, Nat.le_refl _, Nat.le_refl _, fun i e p _ _ => by simp⟩
  obtain ⟨i, hi, rfl⟩ := List.getElem_of_mem hx
  exact hborn i _ (by rw [← Array.getElem?_toList, List.getElem?_eq_getElem hi])
theorem RngW.left (h : RngW vr w b r m S) : w.rangeLeft b r = (m.filter (fun p => !decide (p.1 ∈ S))).length := by
  obtain ⟨es, clock, since, seen, c0, hb, hm, hr, _, _, _, hs⟩ := h
  obtain ⟨es', clock', he, hl, _⟩ := hm.ex
  cases he
  simp only [World.rangeLeft, hb, hr, leftOf]
  rw [← Array.length_toList, Array.toList_filter]
  refine filter_len _ _ _ _ (by simpa using hl) (fun i e p he hp => ?_)
  rw [hs i e p (by simpa using he) hp]
theorem RngW.next (h : RngW vr w b r m S) (ty : TypeId) :
    ((∀ k x, (k, x) ∈ m → k ∈ S) ∧ (Instr.next (.pointer (some ⟨r, 0, none⟩)) false ty).run P w = .ok (.tuple #[.bool false]) w) ∨
    ∃ k x v w', (k, x) ∈ m ∧ k ∉ S ∧ vr x v ∧ (Instr.next (.pointer (some ⟨r, 0, none⟩)) false ty).run P w = .ok (.tuple #[.bool true, KeyV.v k, v]) w' ∧ RngW vr w' b r m (k :: S) ∧ w.grownBy w' (some r) ∧ w'.heap.size = w.heap.size ∧ w'.rangeLeft b r < w.rangeLeft b r ∧
      (Instr.entry (.pointer (some ⟨r, 0, none⟩))).run P w' = .ok (.tuple #[KeyV.v k, v]) w' := by
  have hL := h.left
  have hne := h.lt.2.2
  obtain ⟨es, clock, since, seen, c0, hb, hm, hr, hold, hsc, hsk, hs⟩ := h
  obtain ⟨es', clock', he, hl, hat, hborn, huniq⟩ := hm.ex
  cases he
  rcases run_next_at (P := P) w ty r b since c0 seen es clock hr hb hold hsc with ⟨h0, hrun⟩ | ⟨e, he, w1, hw1, hrun⟩
  · refine .inl ⟨fun k x hkx => ?_, hrun⟩
    obtain ⟨i, hi, hie⟩ := List.getElem_of_mem hkx
    obtain ⟨e, he, _⟩ := hat i hi
    have := hs i e (k, x) he (by rw [List.getElem?_eq_getElem hi, hie])
    have hmem : e ∈ es.toList := Array.mem_toList_iff.2 (Array.mem_of_getElem? he)
    have hz : leftOf es seen = #[] := Array.eq_empty_of_size_eq_zero h0
    have hc : seen.contains e.born = true := by
      cases hcc : seen.contains e.born with
      | true => rfl
      | false =>
        have : e ∈ leftOf es seen := by unfold leftOf; rw [Array.mem_filter]; exact ⟨Array.mem_toList_iff.1 hmem, by rw [hcc]; rfl⟩
        rw [hz] at this; simp at this
    rw [hc] at this
    simpa using this.symm
  · right
    have he' : e ∈ es ∧ (!seen.contains e.born) = true := by
      have := Array.mem_toList_iff.1 he
      unfold leftOf at this
      rwa [Array.mem_filter] at this
    obtain ⟨i, hi, hie⟩ := Array.getElem_of_mem he'.1
    have hei : es[i]? = some e := by rw [Array.getElem?_eq_getElem hi, hie]
    have hil : i < m.length := by omega
    obtain ⟨e2, q1, q2, q3⟩ := hat i hil
    rw [hei] at q1; cases q1
    have hsi := hs i e m[i] hei (List.getElem?_eq_getElem hil)
    have hnS : m[i].1 ∉ S := by
      have := he'.2
      rw [hsi] at this
      simpa using this
    have hw1h : w1.heap = w.heap := by rcases hw1 with rfl | rfl <;> rfl
    have hw1s : w.grownBy w1 none := by rcases hw1 with rfl | rfl <;> exact ⟨rfl, rfl, rfl, Nat.le_refl _, fun _ _ _ => rfl⟩
    have hrlt := (Array.getElem?_eq_some_iff.1 hr).1
    have hnb : (setBlock w1 r (.mapIter (some b) since (seen.push e.born) clock)).heap[b]? = some (.map es clock) := by
      simp only [setBlock, hw1h]
      rw [Array.getElem?_setIfInBounds_ne hne]; exact hb
    have hnr : (setBlock w1 r (.mapIter (some b) since (seen.push e.born) clock)).heap[r]? = some (.mapIter (some b) since (seen.push e.born) clock) := by
      simp only [setBlock, hw1h]
      rw [Array.getElem?_setIfInBounds]; simp [hrlt]
    have hR : RngW vr (setBlock w1 r (.mapIter (some b) since (seen.push e.born) clock)) b r m (m[i].1 :: S) := by
      refine ⟨es, clock, since, _, _, hnb, hm, hnr, hold, hsk, hsk, fun j e' p he' hp => ?_⟩
      rw [Array.contains_push, hs j e' p he' hp]
      have key : (e.born == e'.born) = decide (p.1 = m[i].1) := by
        by_cases hij : j = i
        · subst hij
          rw [hei] at he'; cases he'
          rw [List.getElem?_eq_getElem hil] at hp; cases hp
          simp
        · have h1 : e.born ≠ e'.born := fun hb' => hij (huniq i j e e' hei he' hb').symm
          have h2 : p.1 ≠ m[i].1 := by
            intro hpe
            obtain ⟨hjl, rfl⟩ := List.getElem?_eq_some_iff.1 hp
            have hpw := List.pairwise_iff_getElem.1 hm.nodup
            rcases Nat.lt_or_gt_of_ne hij with hlt | hlt
            · exact hpw j i (by simpa using hjl) (by simpa using hil) hlt (by simpa using hpe)
            · exact hpw i j (by simpa using hil) (by simpa using hjl) hlt (by simpa using hpe.symm)
          simp [h1, h2]
      first
        | rw [key]; simp [Bool.or_comm]
        | (rw [show (e'.born == e.born) = (e.born == e'.born) from Bool.beq_comm .., key]; simp [Bool.or_comm])
    refine ⟨m[i].1, m[i].2, e.val, _, List.getElem_mem hil, hnS, q3, by rw [← q2]; exact hrun, hR, ?_, by simp [setBlock, hw1h], ?_, ?_⟩
    · refine ⟨hw1s.os, hw1s.tape, hw1s.output, by simp [setBlock, hw1h], fun k hk hkr => ?_⟩
      simp only [setBlock, hw1h]
      rw [Array.getElem?_setIfInBounds_ne (fun e => hkr (by rw [e]))]
    · rw [hR.left, hL]
      exact filter_lt (x := m[i].2) (List.getElem_mem hil) hnS
    · rw [← q2]
      refine run_entry_at _ r b since seen es clock e hnr hnb (Array.mem_toList_iff.2 he'.1) ?_
      rw [List.nodup_iff_pairwise_ne, List.pairwise_iff_getElem]
      intro p q hp hq hpq hb
      simp at hp hq hb
      have := huniq p q _ _ (Array.getElem?_eq_getElem hp) (Array.getElem?_eq_getElem hq) hb
      omega
end
end Go.Proofs.YtnlhalnjbkpdnaaDoor
