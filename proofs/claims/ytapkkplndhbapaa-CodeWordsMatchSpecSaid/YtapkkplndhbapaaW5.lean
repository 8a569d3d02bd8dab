/- The words of a text: the plain law, and the walk on the program's side. Conditions: none beyond what the claim form gives. -/
import Derived.Test.YtapkkplndhbapaaW4
namespace Go.Proofs.Ytapkkplndhbapaa
open Go.RowKit
set_option linter.unusedVariables false
def cut30 (x : ByteArray) : ByteArray := x.extract 0 (min x.size 30)
theorem cut30_size (x : ByteArray) : (cut30 x).size ≤ 30 := by unfold cut30; rw [ByteArray.size_extract]; omega
def wrdStep (stops : List ByteArray) (ends : List Endg) (out : List ByteArray) (x : ByteArray) : List ByteArray :=
  if cut30 x ∈ stops then out else if endF ends (cut30 x) ∈ out ∨ 60 ≤ out.length then out else out ++ [endF ends (cut30 x)]
def wrdK (stops : List ByteArray) (ends : List Endg) (rs : List ByteArray) : Nat → List ByteArray
  | 0 => []
  | k + 1 => wrdStep stops ends (wrdK stops ends rs k) (rs.getD k str0)
def wordsF (stops : List ByteArray) (ends : List Endg) (text : ByteArray) : List ByteArray := wrdK stops ends (rowsF text) (rowsF text).length
theorem wrdK_len (stops : List ByteArray) (ends : List Endg) (rs : List ByteArray) : ∀ k, (wrdK stops ends rs k).length ≤ 60
  | 0 => Nat.zero_le _
  | k + 1 => by
    have := wrdK_len stops ends rs k
    rw [wrdK, wrdStep]
    split
    · exact this
    · split
      · exact this
      · next h => rw [List.length_append]; simp; omega
section
variable {stops : List ByteArray} {ends : List Endg} {rs : List ByteArray} {k : Nat} {out : List ByteArray} {x y : ByteArray}
theorem wrd_stop (h : Hid (wrdK stops ends rs k = out)) (hx : Hid (cut30 (rs.getD k str0) = x)) (hs : Hid (decide (x ∈ stops) = true)) : Hid (wrdK stops ends rs (k + 1) = out) :=
  Lib.hid (by rw [wrdK, h.out, wrdStep, hx.out, if_pos (of_decide_eq_true hs.out)])
theorem wrd_in (h : Hid (wrdK stops ends rs k = out)) (hx : Hid (cut30 (rs.getD k str0) = x)) (hs : Hid (decide (x ∈ stops) = false)) (hy : Hid (endF ends x = y)) (hi : y ∈ out ∨ 60 ≤ out.length) : Hid (wrdK stops ends rs (k + 1) = out) :=
  Lib.hid (by rw [wrdK, h.out, wrdStep, hx.out, if_neg (of_decide_eq_false hs.out), hy.out, if_pos hi])
theorem wrd_new (h : Hid (wrdK stops ends rs k = out)) (hx : Hid (cut30 (rs.getD k str0) = x)) (hs : Hid (decide (x ∈ stops) = false)) (hy : Hid (endF ends x = y)) (hi : ¬ (y ∈ out ∨ 60 ≤ out.length)) : Hid (wrdK stops ends rs (k + 1) = out ++ [y]) :=
  Lib.hid (by rw [wrdK, h.out, wrdStep, hx.out, if_neg (of_decide_eq_false hs.out), hy.out, if_neg hi])
end
theorem SeenW.congr {w : World} {r : Nat} {L L' : List ByteArray} (h : SeenW w r L) (e : ∀ k, k ∈ L ↔ k ∈ L') : SeenW w r L' := by
  obtain ⟨o, M, h1, h2, h3⟩ := h
  exact ⟨o, M, h1, h2, fun k => by rw [h3]; simp only [e k]⟩
/-- Words in the making, and the map of those that are there. -/
structure WdSt (w0 : World) (φ0 φ : Phi) (ao : Option Addr) (co : Nat) (out L : List ByteArray) (bs : Nat) (wr : World) : Prop where
  inv : Inv w0.heap.size w0 φ0 φ wr
  own : Own w0.heap.size φ wr 9 ao co out
  seen : SeenW wr bs L
  lo : w0.heap.size ≤ bs
  fr : φ bs = none
  ne : ∀ x, ao = some x → x.block ≠ bs
section
variable {w0 wr w' : World} {φ0 φ : Phi} {ao ao' : Option Addr} {co co' : Nat} {out out' L L' : List ByteArray} {bs : Nat}
theorem WdSt.callB (h : WdSt w0 φ0 φ ao co out L bs wr) (hb : Below wr.heap.size wr w') : WdSt w0 φ0 φ ao co out L bs w' := ⟨h.inv.callB hb, h.own.callB hb, h.seen.callB hb, h.lo, h.fr, h.ne⟩
theorem WdSt.put (h : WdSt w0 φ0 φ ao co out L bs wr) (k : ByteArray) :
    ∃ o, (Instr.mapUpdate 53 (.map (some bs)) (.string k) (.bool true)).run Try.prog wr = .ok () (setMap wr bs o) ∧ WdSt w0 φ0 φ ao co out (k :: L) bs (setMap wr bs o) := by
  obtain ⟨o, h1, h2⟩ := h.seen.put k
  have hg := setMap_grown wr bs o
  exact ⟨o, h1, h.inv.write h.lo h.fr hg, h.own.other hg (fun x hx e => h.ne x hx (by cases e; rfl)), h2, h.lo, h.fr, h.ne⟩
theorem WdSt.app (h : WdSt w0 φ0 φ ao co out L bs wr) (hi : Inv w0.heap.size w0 φ0 φ w') (ho : Own w0.heap.size φ w' 9 ao' co' out') (hg : wr.grownBy w' (ao.map (·.block))) (hf : ∀ x, ao' = some x → ao.map (·.block) = some x.block ∨ wr.heap.size ≤ x.block) (e : ∀ k, k ∈ L ↔ k ∈ out') : WdSt w0 φ0 φ ao' co' out' out' bs w' := by
  have hs := h.seen.lt
  refine ⟨hi, ho, (h.seen.kept (hg.block bs hs (fun q => ?_))).congr e, h.lo, h.fr, fun x hx q => ?_⟩
  · cases ao with
    | none => cases q
    | some z => exact h.ne z rfl (by simpa using q.symm)
  · rcases hf x hx with hh | hh
    · cases ao with
      | none => cases hh
      | some z => exact h.ne z rfl ((by simpa using hh : z.block = x.block).trans q)
    · omega
end
set_option maxRecDepth 100000 in
set_option maxHeartbeats 1000000 in
theorem words_any {bm : Nat} {cs : Array Value} {ns : Nat} {a1 : Option Addr} {c1 : Nat} {stops : List ByteArray} {n : Nat} {a : Option Addr} {c : Nat} {ends : List Endg} {w : World} {φ : Phi} (hφ : Fz φ w) (hB : Hid (Blk w bm cs 59)) (hcs : Hid (cs[1]? = some (.slice a1 ns c1))) (ss : SlV φ a1 c1 stops) (hns : Hid (stops.length = ns)) (hms : ns ≤ 9223372036854775807) (hc : Hid (cs[2]? = some (.slice a n c))) (s : SlV φ a c ends) (hn : Hid (ends.length = n)) (hm : n ≤ 9223372036854775807) (hg : Hid (∀ x ∈ ends, StrG x.1 ∧ StrG x.2)) (text : ByteArray) (hx : text.size ≤ 1000) {l : List ByteArray} (hl : Hid (wordsF stops ends text = l)) :
    Calls Try.prog 10 #[.pointer (some ⟨bm, 0, none⟩), .string text] w (SlPost1 l φ w) := by
  have hmm := @run_makeMap Try.prog
  go_enter Try.func10, Try.ntmps10
  have hI0 := Lib.hid ((Inv.start hφ).alloc (.map #[] 0))
  have hM0 := Lib.hid (SeenW.new w)
  go_wp2_with fail
  refine (rows_any text _ φ hI0.out.fz hx).mono ?_
  rintro e w2 ⟨ar, cr, φ2, rfl, hi2, sr⟩
  obtain ⟨rs, hrs⟩ : ∃ rs, Hid (rowsF text = rs) := ⟨_, Lib.hid rfl⟩
  have hrl := (rowsF_bd text).1
  have hrb := Lib.hid (rowsF_bd text).2
  unfold wordsF at hl
  rw [hrs.out] at sr hrl hrb hl ⊢
  obtain ⟨nr, hnr⟩ : ∃ nr, Hid (rs.length = nr) := ⟨_, Lib.hid rfl⟩
  rw [hnr.out] at hrl ⊢ hl
  have hS0 : Hid (WdSt w φ φ2 none 0 [] [] w.heap.size w2) := Lib.hid ⟨hI0.out.call hi2, Own.nil _ _ _ _, hM0.out.callB hi2.bel, Nat.le_refl _, by
    rw [hi2.new _ (by simp)]
    exact hφ.new_none (Nat.le_refl _), fun x hx => by cases hx⟩
  have ss2 := ss.mono hi2.le
  have se2 := s.mono hi2.le
  have hBl := Lib.hid hB.out.lt
  clear hI0 hM0 hi2 hmm
  go_wp2
  go_loopw [5, 13] (fun o i wr => ∃ (k : Nat) (ao : Option Addr) (co : Nat) (out : List ByteArray), k ≤ nr ∧ o = .slice ao out.length co ∧ i = .int .i64 k ∧ Hid (wrdK stops ends rs k = out) ∧ out.length ≤ 60 ∧ Hid (WdSt w φ φ2 ao co out out w.heap.size wr)) (fun _ i _ => nr - (intOf i).toNat)
  case atStart => exact ⟨0, none, 0, [], Nat.zero_le _, rfl, rfl, Lib.hid rfl, Nat.zero_le _, hS0⟩
  case round =>
    clear hS0
    obtain ⟨k, ao, co, out, hk, rfl, rfl, hst, hlo, hS⟩ := hrel
    by_cases hlt : k < nr
    · obtain ⟨b, off, rfl, f⟩ := sr.strsD hnr hlt
      obtain ⟨hbl, d1⟩ := f k hlt wr hS.out.inv.fz
      have hxs := hrb.out (rs.getD k str0) (by rw [getD_elem0 _ _ _ (by rw [hnr.out]; exact hlt)]; exact List.getElem_mem _)
      have hc30 : Hid ((rs.getD k str0).extract 0 (min (rs.getD k str0).size 30) = cut30 (rs.getD k str0)) := Lib.hid rfl
      have hcz := cut30_size (rs.getD k str0)
      obtain ⟨y, hy⟩ : ∃ y, Hid (cut30 (rs.getD k str0) = y) := ⟨_, Lib.hid rfl⟩
      rw [hy.out] at hc30 hcz
      have hck := hy
      clear f
      generalize rs.getD k str0 = x at d1 hxs hc30 hcz hy ⊢
      obtain ⟨q, hq⟩ : ∃ q, Hid (decide (y ∈ stops) = q) := ⟨_, Lib.hid rfl⟩
      obtain ⟨t, ht⟩ : ∃ t, Hid (endF ends y = t) := ⟨_, Lib.hid rfl⟩
      obtain ⟨p, hp⟩ : ∃ p, Hid (decide (t ∈ out) = p) := ⟨_, Lib.hid rfl⟩
      have hm0 : wr.cell? ⟨bm, 1, none⟩ = some (.slice a1 ns c1) := ((hB.out.below hS.out.inv.bel hBl.out).cell 1).trans hcs.out
      have hmB := Lib.hid (hB.out.below hS.out.inv.bel hBl.out)
      by_cases h30 : x.size ≤ 30
      · have hyx : Hid (y = x) := Lib.hid (by
          rw [← hc30.out, Nat.min_eq_left h30]
          exact ByteArray.extract_zero_size)
        have hc30' : Hid (x.extract 0 x.size = y) := Lib.hid (by rw [hyx.out]; exact ByteArray.extract_zero_size)
        obtain rfl := hyx.out
        replace hc30 := hc30'
        have hcut := hc30.out
        cases q
        · cases p
          · by_cases h60 : out.length < 60
            · go_wp2_with (first
                | (go_at_call 20; refine (ContainsS_b ns a1 c1 stops y _ φ2 hS.out.inv.fz ss2 hns hms hq).mono ?_; rintro e w' ⟨rfl, rfl⟩)
                | (go_at_call 21; refine (ended_any (hS.out.inv.fz) hmB hc se2 hn hm hg y (by omega) ht).mono ?_; rintro e w5 ⟨rfl, hb5⟩; have hS5 := Lib.hid (hS.out.callB hb5); have hlk := hS5.out.seen.look t hp.out; obtain ⟨o6, hput, hS6⟩ := hS5.out.put t; replace hS6 := Lib.hid hS6; have hin := Lib.hid hS6.out.inv; have hon := Lib.hid hS6.out.own; clear hb5)
                | (at_builtin; (refine wpList_app1F (α := ByteArray) rfl _ _ 23 rfl slS hin.out ao co _ hon.out _ _ t rfl rfl 1 rfl (by omega) ?_; intro a8 c8 w8 hi8 ho8 hg8 hf8)))
              go_roundw
              case rel =>
                exact ⟨k + 1, a8, c8, out ++ [t], by omega, by simp, by go_num, wrd_new hst hck hq ht (fun h => by rcases h with h | h; exact of_decide_eq_false hp.out h; omega), by simp; omega, Lib.hid ((hS6.out.callB ((Below.refl _ _).alloc (Nat.le_refl _) _)).app hi8 ho8 hg8 hf8 (fun z => by simp [or_comm]))⟩
              case measure => (simp [intOf] <;> omega)
            · go_wp2_with (first
                | (go_at_call 20; refine (ContainsS_b ns a1 c1 stops y _ φ2 hS.out.inv.fz ss2 hns hms hq).mono ?_; rintro e w' ⟨rfl, rfl⟩)
                | (go_at_call 21; refine (ended_any (hS.out.inv.fz) hmB hc se2 hn hm hg y (by omega) ht).mono ?_; rintro e w5 ⟨rfl, hb5⟩; have hS5 := Lib.hid (hS.out.callB hb5); have hlk := hS5.out.seen.look t hp.out; clear hb5))
              go_roundw
              case rel => exact ⟨k + 1, ao, co, out, by omega, rfl, by go_num, wrd_in hst hck hq ht (.inr (by omega)), hlo, hS5⟩
              case measure => (simp [intOf] <;> omega)
          · go_wp2_with (first
              | (go_at_call 20; refine (ContainsS_b ns a1 c1 stops y _ φ2 hS.out.inv.fz ss2 hns hms hq).mono ?_; rintro e w' ⟨rfl, rfl⟩)
              | (go_at_call 21; refine (ended_any (hS.out.inv.fz) hmB hc se2 hn hm hg y (by omega) ht).mono ?_; rintro e w5 ⟨rfl, hb5⟩; have hS5 := Lib.hid (hS.out.callB hb5); have hlk := hS5.out.seen.look t hp.out; clear hb5))
            go_roundw
            case rel => exact ⟨k + 1, ao, co, out, by omega, rfl, by go_num, wrd_in hst hck hq ht (.inl (of_decide_eq_true hp.out)), hlo, hS5⟩
            case measure => (simp [intOf] <;> omega)
        · go_wp2_with (go_at_call 20; refine (ContainsS_b ns a1 c1 stops y _ φ2 hS.out.inv.fz ss2 hns hms hq).mono ?_; rintro e w' ⟨rfl, rfl⟩)
          go_roundw
          case rel => exact ⟨k + 1, ao, co, out, by omega, rfl, by go_num, wrd_stop hst hck hq, hlo, hS⟩
          case measure => (simp [intOf] <;> omega)
      · replace hc30 : Hid (x.extract 0 30 = y) := Lib.hid (by rw [← hc30.out, Nat.min_eq_right (by omega)])
        have hcut := hc30.out
        cases q
        · cases p
          · by_cases h60 : out.length < 60
            · go_wp2_with (first
                | (go_at_call 20; refine (ContainsS_b ns a1 c1 stops y _ φ2 hS.out.inv.fz ss2 hns hms hq).mono ?_; rintro e w' ⟨rfl, rfl⟩)
                | (go_at_call 21; refine (ended_any (hS.out.inv.fz) hmB hc se2 hn hm hg y (by omega) ht).mono ?_; rintro e w5 ⟨rfl, hb5⟩; have hS5 := Lib.hid (hS.out.callB hb5); have hlk := hS5.out.seen.look t hp.out; obtain ⟨o6, hput, hS6⟩ := hS5.out.put t; replace hS6 := Lib.hid hS6; have hin := Lib.hid hS6.out.inv; have hon := Lib.hid hS6.out.own; clear hb5)
                | (at_builtin; (refine wpList_app1F (α := ByteArray) rfl _ _ 23 rfl slS hin.out ao co _ hon.out _ _ t rfl rfl 1 rfl (by omega) ?_; intro a8 c8 w8 hi8 ho8 hg8 hf8)))
              go_roundw
              case rel =>
                exact ⟨k + 1, a8, c8, out ++ [t], by omega, by simp, by go_num, wrd_new hst hck hq ht (fun h => by rcases h with h | h; exact of_decide_eq_false hp.out h; omega), by simp; omega, Lib.hid ((hS6.out.callB ((Below.refl _ _).alloc (Nat.le_refl _) _)).app hi8 ho8 hg8 hf8 (fun z => by simp [or_comm]))⟩
              case measure => (simp [intOf] <;> omega)
            · go_wp2_with (first
                | (go_at_call 20; refine (ContainsS_b ns a1 c1 stops y _ φ2 hS.out.inv.fz ss2 hns hms hq).mono ?_; rintro e w' ⟨rfl, rfl⟩)
                | (go_at_call 21; refine (ended_any (hS.out.inv.fz) hmB hc se2 hn hm hg y (by omega) ht).mono ?_; rintro e w5 ⟨rfl, hb5⟩; have hS5 := Lib.hid (hS.out.callB hb5); have hlk := hS5.out.seen.look t hp.out; clear hb5))
              go_roundw
              case rel => exact ⟨k + 1, ao, co, out, by omega, rfl, by go_num, wrd_in hst hck hq ht (.inr (by omega)), hlo, hS5⟩
              case measure => (simp [intOf] <;> omega)
          · go_wp2_with (first
              | (go_at_call 20; refine (ContainsS_b ns a1 c1 stops y _ φ2 hS.out.inv.fz ss2 hns hms hq).mono ?_; rintro e w' ⟨rfl, rfl⟩)
              | (go_at_call 21; refine (ended_any (hS.out.inv.fz) hmB hc se2 hn hm hg y (by omega) ht).mono ?_; rintro e w5 ⟨rfl, hb5⟩; have hS5 := Lib.hid (hS.out.callB hb5); have hlk := hS5.out.seen.look t hp.out; clear hb5))
            go_roundw
            case rel => exact ⟨k + 1, ao, co, out, by omega, rfl, by go_num, wrd_in hst hck hq ht (.inl (of_decide_eq_true hp.out)), hlo, hS5⟩
            case measure => (simp [intOf] <;> omega)
        · go_wp2_with (go_at_call 20; refine (ContainsS_b ns a1 c1 stops y _ φ2 hS.out.inv.fz ss2 hns hms hq).mono ?_; rintro e w' ⟨rfl, rfl⟩)
          go_roundw
          case rel => exact ⟨k + 1, ao, co, out, by omega, rfl, by go_num, wrd_stop hst hck hq, hlo, hS⟩
          case measure => (simp [intOf] <;> omega)
    · obtain rfl : k = nr := by omega
      go_wp2
      go_ret
      have e : l = out := by rw [← hl.out, ← hst.out]
      obtain ⟨φ', _, hi, hs', _⟩ := hS.out.own.release hS.out.inv
      rw [e]
      exact ⟨ao, co, φ', rfl, hi, hs'⟩
end Go.Proofs.Ytapkkplndhbapaa
