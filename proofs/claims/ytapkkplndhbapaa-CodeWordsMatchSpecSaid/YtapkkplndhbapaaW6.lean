/- The words of a text: the walk on the reference's side. Conditions: none beyond what the claim form gives. -/
import Derived.Test.YtapkkplndhbapaaW3
import Derived.Test.YtapkkplndhbapaaW5
namespace Go.Proofs.Ytapkkplndhbapaa
open Go.RowKit
set_option linter.unusedVariables false
def rwStep (stops : List ByteArray) (ends : List Endg) (out : List ByteArray) (x : ByteArray) : List ByteArray :=
  if cut30 x ∈ stops then out else if endF ends (cut30 x) ∈ out then out else out ++ [endF ends (cut30 x)]
def rwK (stops : List ByteArray) (ends : List Endg) (rs : List ByteArray) : Nat → List ByteArray
  | 0 => []
  | k + 1 => rwStep stops ends (rwK stops ends rs k) (rs.getD k str0)
theorem rwK_take (stops : List ByteArray) (ends : List Endg) (rs : List ByteArray) : ∀ k, (rwK stops ends rs k).take 60 = wrdK stops ends rs k
  | 0 => rfl
  | k + 1 => by
    have ih := rwK_take stops ends rs k
    rw [rwK, wrdK, rwStep, wrdStep, ← ih]
    generalize rwK stops ends rs k = R
    generalize rs.getD k str0 = x
    by_cases h1 : cut30 x ∈ stops
    · rw [if_pos h1, if_pos h1]
    rw [if_neg h1, if_neg h1]
    generalize endF ends (cut30 x) = e
    by_cases h2 : e ∈ R
    · rw [if_pos h2]
      by_cases h3 : R.length ≤ 60
      · rw [List.take_of_length_le h3, if_pos (.inl h2)]
      · rw [if_pos (.inr (by rw [List.length_take]; omega))]
    · rw [if_neg h2]
      have h3 : e ∉ R.take 60 := fun h => h2 (List.mem_of_mem_take h)
      by_cases h4 : R.length < 60
      · rw [List.take_of_length_le (by simp; omega), if_neg (by rw [List.take_of_length_le (by omega)]; exact fun h => by rcases h with h | h; exact h2 h; omega), List.take_of_length_le (by omega)]
      · rw [List.take_append_of_le_length (by omega), if_pos (.inr (by rw [List.length_take]; omega))]
section
variable {stops : List ByteArray} {ends : List Endg} {rs : List ByteArray} {k : Nat} {out : List ByteArray} {x y : ByteArray}
theorem rw_stop (h : Hid (rwK stops ends rs k = out)) (hx : Hid (cut30 (rs.getD k str0) = x)) (hs : Hid (decide (x ∈ stops) = true)) : Hid (rwK stops ends rs (k + 1) = out) :=
  Lib.hid (by rw [rwK, h.out, rwStep, hx.out, if_pos (of_decide_eq_true hs.out)])
theorem rw_in (h : Hid (rwK stops ends rs k = out)) (hx : Hid (cut30 (rs.getD k str0) = x)) (hs : Hid (decide (x ∈ stops) = false)) (hy : Hid (endF ends x = y)) (hi : Hid (decide (y ∈ out) = true)) : Hid (rwK stops ends rs (k + 1) = out) :=
  Lib.hid (by rw [rwK, h.out, rwStep, hx.out, if_neg (of_decide_eq_false hs.out), hy.out, if_pos (of_decide_eq_true hi.out)])
theorem rw_new (h : Hid (rwK stops ends rs k = out)) (hx : Hid (cut30 (rs.getD k str0) = x)) (hs : Hid (decide (x ∈ stops) = false)) (hy : Hid (endF ends x = y)) (hi : Hid (decide (y ∈ out) = false)) : Hid (rwK stops ends rs (k + 1) = out ++ [y]) :=
  Lib.hid (by rw [rwK, h.out, rwStep, hx.out, if_neg (of_decide_eq_false hs.out), hy.out, if_neg (of_decide_eq_false hi.out)])
end
theorem fit_split {x y1 : ByteArray} {y2 : ByteArray} : fitB x (y1, y2) = (sufB x y1 && decide (3 ≤ x.size - y1.size)) := rfl
set_option maxRecDepth 100000 in
set_option maxHeartbeats 2000000 in
theorem Rwords_any {v0 v3 v4 : Value} {ns : Nat} {a1 : Option Addr} {c1 : Nat} {stops : List ByteArray} {n : Nat} {a : Option Addr} {c : Nat} {ends : List Endg} {w : World} {φ : Phi} (hφ : Fz φ w) (ss : SlV φ a1 c1 stops) (hns : Hid (stops.length = ns)) (hms : ns ≤ 9223372036854775807) (s : SlV φ a c ends) (hn : Hid (ends.length = n)) (hm : n ≤ 9223372036854775807) (hg : Hid (∀ x ∈ ends, StrG x.1 ∧ StrG x.2)) (text : ByteArray) (hx : text.size ≤ 1000) {l : List ByteArray} (hl : Hid (wordsF stops ends text = l)) :
    Calls Try.prog 12 #[.agg #[v0, .slice a1 ns c1, .slice a n c, v3, v4], .string text] w (SlPost1 l φ w) := by
  obtain ⟨φ1, le1, i1, k1⟩ := (Inv.start hφ).frz (.cells #[v0, .slice a1 ns c1, .slice a n c, v3, v4] 28)
  go_enter Try.func12, Try.ntmps12
  go_wp2_with fail
  refine (Rrows_any text _ φ1 i1.fz hx).mono ?_
  rintro e w2 ⟨ar, cr, φ2, rfl, hi2, sr⟩
  obtain ⟨rs, hrs⟩ : ∃ rs, Hid (rowsF text = rs) := ⟨_, Lib.hid rfl⟩
  have hrl := (rowsF_bd text).1
  have hrb := Lib.hid (rowsF_bd text).2
  unfold wordsF at hl
  rw [hrs.out] at sr hrl hrb hl ⊢
  obtain ⟨nr, hnr⟩ : ∃ nr, Hid (rs.length = nr) := ⟨_, Lib.hid rfl⟩
  rw [hnr.out] at hrl ⊢ hl
  have hS0 : Hid (OwSt w2 φ2 9 none 0 ([] : List ByteArray) w2) := Lib.hid ⟨Inv.start hi2.fz, Own.nil _ _ _ _⟩
  have ss2 := ss.mono (le1.trans hi2.le)
  have se2 := s.mono (le1.trans hi2.le)
  have hI2 := Lib.hid (i1.call hi2)
  obtain ⟨bc, hbc⟩ : ∃ bc, Hid (w.heap.size = bc) := ⟨_, Lib.hid rfl⟩
  have hX : Hid (φ2 bc = some (.cells #[v0, .slice a1 ns c1, .slice a n c, v3, v4] 28)) := Lib.hid (by rw [← hbc.out]; exact hi2.le _ _ k1)
  clear hi2 i1 k1 le1
  rw [hbc.out]
  go_wp2
  go_loopw [5, 13] (fun o i wr => ∃ (k : Nat) (ao : Option Addr) (co : Nat) (out : List ByteArray), k ≤ nr ∧ o = .slice ao out.length co ∧ i = .int .i64 k ∧ Hid (rwK stops ends rs k = out) ∧ out.length ≤ k ∧ Hid (OwSt w2 φ2 9 ao co out wr)) (fun _ i _ => nr - (intOf i).toNat)
  case atStart => exact ⟨0, none, 0, [], Nat.zero_le _, rfl, rfl, Lib.hid rfl, Nat.zero_le _, hS0⟩
  case round =>
    clear hS0
    obtain ⟨k, ao, co, out, hk, rfl, rfl, hst, hlo, hS⟩ := hrel
    by_cases hlt : k < nr
    · obtain ⟨b, off, rfl, f⟩ := sr.strsD hnr hlt
      obtain ⟨hbl, d1⟩ := f k hlt wr hS.out.inv.fz
      have hxs := hrb.out (rs.getD k str0) (by rw [getD_elem0 _ _ _ (by rw [hnr.out]; exact hlt)]; exact List.getElem_mem _)
      have hc30 : Hid ((rs.getD k str0).extract 0 (min (rs.getD k str0).size 30) = cut30 (rs.getD k str0)) := Lib.hid rfl
      have hcz := cut30_size (rs.getD k str0)
      obtain ⟨y, hy⟩ : ∃ y, Hid (cut30 (rs.getD k str0) = y) := ⟨_, Lib.hid rfl⟩
      rw [hy.out] at hc30 hcz
      have hck := hy
      clear f
      generalize rs.getD k str0 = x at d1 hxs hc30 hcz hy ⊢
      obtain ⟨q, hq⟩ : ∃ q, Hid (decide (y ∈ stops) = q) := ⟨_, Lib.hid rfl⟩
      obtain ⟨t, ht⟩ : ∃ t, Hid (endF ends y = t) := ⟨_, Lib.hid rfl⟩
      by_cases h30 : x.size ≤ 30
      · have hyx : Hid (y = x) := Lib.hid (by
          rw [← hc30.out, Nat.min_eq_left h30]
          exact ByteArray.extract_zero_size)
        have hc30' : Hid (x.extract 0 x.size = y) := Lib.hid (by rw [hyx.out]; exact ByteArray.extract_zero_size)
        obtain rfl := hyx.out
        replace hc30 := hc30'
        have hcut := hc30.out
        have d0 : wr.cell? ⟨bc, 1, none⟩ = some (.slice a1 ns c1) := (hS.out.inv.fz.blk hX.out).cell 1
        have d2 : wr.cell? ⟨bc, 2, none⟩ = some (.slice a n c) := (hS.out.inv.fz.blk hX.out).cell 2
        cases q
        · go_wp2_with (go_at_call 20; refine (ContainsS_b ns a1 c1 stops y _ φ2 hS.out.inv.fz ss2 hns hms hq).mono ?_; rintro e w' ⟨rfl, rfl⟩)
          clear d0 d1 d2 hcut
          go_loopw [7, 29] (fun wv i wi => ∃ j : Nat, j ≤ n ∧ wv = .string y ∧ i = .int .i64 j ∧ Hid (∀ i, i < j → fitB y (ends.getD i end0) = false) ∧ Hid (OwSt w2 φ2 9 ao co out wi)) (fun _ i _ => n - (intOf i).toNat)
          case atStart => exact ⟨0, Nat.zero_le _, rfl, rfl, Lib.hid (fun i hi => by omega), hS⟩
          case round =>
            obtain ⟨j, hj, rfl, rfl, hok, hSi⟩ := hrel
            rename World => wi
            by_cases hjl : j < n
            · obtain ⟨be, oe, rfl, f⟩ := se2.endD hn hjl
              obtain ⟨hble, e1, e2⟩ := f j hjl wi hSi.out.inv.fz
              have hmem : ends.getD j end0 ∈ ends := by rw [getD_elem0 _ _ _ (by rw [hn.out]; exact hjl)]; exact List.getElem_mem _
              have hgk := hg.out _ hmem
              have g1 : (ends.getD j end0).1.size ≤ 140737488351232 := hgk.1
              have g2 : (ends.getD j end0).2.size ≤ 140737488351232 := hgk.2
              have hfit : Hid (fitB y (ends.getD j end0) = (sufB y (ends.getD j end0).1 && decide (3 ≤ y.size - (ends.getD j end0).1.size))) := Lib.hid rfl
              have hat : Hid (fitB y (ends.getD j end0) = true → endF ends y = y.extract 0 (y.size - (ends.getD j end0).1.size) ++ (ends.getD j end0).2) := Lib.hid (fun h => endF_at hn hjl hok h)
              have hSb := Lib.hid (fun o => hSi.out.alloc o)
              clear f hmem hgk
              generalize (ends.getD j end0).1 = y1 at *
              generalize (ends.getD j end0).2 = y2 at *
              obtain ⟨g, hgq⟩ : ∃ q, Hid (sufB y y1 = q) := ⟨_, Lib.hid rfl⟩
              cases g
              · go_wp2_with (go_at_call 23; refine (HasSuffix_any y y1 _ (by omega) (by omega) hgq).mono ?_; rintro e w' ⟨rfl, rfl⟩)
                go_roundw
                case rel => exact ⟨j + 1, by omega, rfl, by go_num, next_fit hok (by rw [hfit.out, hgq.out]; rfl), Lib.hid (hSb.out _)⟩
                case measure => (simp [intOf] <;> omega)
              · have hsz1 : y1.size ≤ y.size := sufB_size hgq.out
                by_cases h3 : y1.size + 3 ≤ y.size
                · have h3i : (y1.size : Int) + 3 ≤ y.size := by omega
                  obtain ⟨t1, ht1⟩ : ∃ t1, Hid (y.extract 0 (y.size - y1.size) = t1) := ⟨_, Lib.hid rfl⟩
                  have hsz : t1.size = y.size - y1.size := by rw [← ht1.out, ByteArray.size_extract]; omega
                  have hex := ht1.out
                  have hte : t = t1 ++ y2 := by rw [← ht.out, hat.out (by rw [hfit.out, hgq.out]; simp; omega), ht1.out]
                  have ht2 := ht
                  rw [hte] at ht2
                  go_wp2_with (go_at_call 23; refine (HasSuffix_any y y1 _ (by omega) (by omega) hgq).mono ?_; rintro e w' ⟨rfl, rfl⟩)
                  go_quiet (fail)
                  clear hex
                  have hSq := Lib.hid ((hSb.out (.cells #[.string y1, .string y2] 45)).drewN nq)
                  generalize (wi.alloc (.cells #[.string y1, .string y2] 45)).drewN nq = wq at *
                  have hS8 := hSq
                  obtain ⟨φ8, le8, i8, s8, _⟩ := hS8.out.own.release hS8.out.inv
                  have F8 := Lib.hid i8.fz
                  have S8 := Lib.hid s8
                  have hin := Lib.hid hS8.out.inv
                  have hon := Lib.hid hS8.out.own
                  clear i8 s8 le8
                  obtain ⟨p, hp⟩ : ∃ p, Hid (decide ((t1 ++ y2) ∈ out) = p) := ⟨_, Lib.hid rfl⟩
                  cases p
                  · go_wp2_with (first
                      | (go_at_call 20; refine (ContainsS_b _ ao co out (t1 ++ y2) _ φ8 F8.out S8.out (Lib.hid rfl) (by omega) hp).mono ?_; rintro e w' ⟨rfl, rfl⟩)
                      | (at_builtin; (refine wpList_app1F (α := ByteArray) rfl _ _ 23 rfl slS hin.out ao co _ hon.out _ _ (t1 ++ y2) rfl rfl 1 rfl (by omega) ?_; intro a8 c8 w8 hi8 ho8 hg8 hf8)))
                    go_roundw
                    case rel => exact ⟨k + 1, a8, c8, out ++ [(t1 ++ y2)], by omega, by simp, by go_num, rw_new hst hck hq ht2 hp, by simp; omega, Lib.hid ⟨hi8, ho8⟩⟩
                    case measure => (simp [intOf] <;> omega)
                  · go_wp2_with (go_at_call 20; refine (ContainsS_b _ ao co out (t1 ++ y2) _ φ8 F8.out S8.out (Lib.hid rfl) (by omega) hp).mono ?_; rintro e w' ⟨rfl, rfl⟩)
                    go_roundw
                    case rel => exact ⟨k + 1, ao, co, out, by omega, rfl, by go_num, rw_in hst hck hq ht2 hp, by omega, hS8⟩
                    case measure => (simp [intOf] <;> omega)
                · go_wp2_with (go_at_call 23; refine (HasSuffix_any y y1 _ (by omega) (by omega) hgq).mono ?_; rintro e w' ⟨rfl, rfl⟩)
                  go_roundw
                  case rel => exact ⟨j + 1, by omega, rfl, by go_num, next_fit hok (by rw [hfit.out, hgq.out]; simp; omega), Lib.hid (hSb.out _)⟩
                  case measure => (simp [intOf] <;> omega)
            · obtain rfl : j = n := by omega
              obtain rfl : t = y := by rw [← ht.out, endF_none hn hok]
              have hS8 := hSi
              obtain ⟨φ8, le8, i8, s8, _⟩ := hS8.out.own.release hS8.out.inv
              have F8 := Lib.hid i8.fz
              have S8 := Lib.hid s8
              have hin := Lib.hid hS8.out.inv
              have hon := Lib.hid hS8.out.own
              clear i8 s8 le8
              obtain ⟨p, hp⟩ : ∃ p, Hid (decide (t ∈ out) = p) := ⟨_, Lib.hid rfl⟩
              cases p
              · go_wp2_with (first
                  | (go_at_call 20; refine (ContainsS_b _ ao co out t _ φ8 F8.out S8.out (Lib.hid rfl) (by omega) hp).mono ?_; rintro e w' ⟨rfl, rfl⟩)
                  | (at_builtin; (refine wpList_app1F (α := ByteArray) rfl _ _ 23 rfl slS hin.out ao co _ hon.out _ _ t rfl rfl 1 rfl (by omega) ?_; intro a8 c8 w8 hi8 ho8 hg8 hf8)))
                go_roundw
                case rel => exact ⟨k + 1, a8, c8, out ++ [t], by omega, by simp, by go_num, rw_new hst hck hq ht hp, by simp; omega, Lib.hid ⟨hi8, ho8⟩⟩
                case measure => (simp [intOf] <;> omega)
              · go_wp2_with (go_at_call 20; refine (ContainsS_b _ ao co out t _ φ8 F8.out S8.out (Lib.hid rfl) (by omega) hp).mono ?_; rintro e w' ⟨rfl, rfl⟩)
                go_roundw
                case rel => exact ⟨k + 1, ao, co, out, by omega, rfl, by go_num, rw_in hst hck hq ht hp, by omega, hS8⟩
                case measure => (simp [intOf] <;> omega)
        · go_wp2_with (go_at_call 20; refine (ContainsS_b ns a1 c1 stops y _ φ2 hS.out.inv.fz ss2 hns hms hq).mono ?_; rintro e w' ⟨rfl, rfl⟩)
          go_roundw
          case rel => exact ⟨k + 1, ao, co, out, by omega, rfl, by go_num, rw_stop hst hck hq, by omega, hS⟩
          case measure => (simp [intOf] <;> omega)
      · replace hc30 : Hid (x.extract 0 30 = y) := Lib.hid (by rw [← hc30.out, Nat.min_eq_right (by omega)])
        have hcut := hc30.out
        have d0 : wr.cell? ⟨bc, 1, none⟩ = some (.slice a1 ns c1) := (hS.out.inv.fz.blk hX.out).cell 1
        have d2 : wr.cell? ⟨bc, 2, none⟩ = some (.slice a n c) := (hS.out.inv.fz.blk hX.out).cell 2
        cases q
        · go_wp2_with (go_at_call 20; refine (ContainsS_b ns a1 c1 stops y _ φ2 hS.out.inv.fz ss2 hns hms hq).mono ?_; rintro e w' ⟨rfl, rfl⟩)
          clear d0 d1 d2 hcut
          go_loopw [7, 29] (fun wv i wi => ∃ j : Nat, j ≤ n ∧ wv = .string y ∧ i = .int .i64 j ∧ Hid (∀ i, i < j → fitB y (ends.getD i end0) = false) ∧ Hid (OwSt w2 φ2 9 ao co out wi)) (fun _ i _ => n - (intOf i).toNat)
          case atStart => exact ⟨0, Nat.zero_le _, rfl, rfl, Lib.hid (fun i hi => by omega), hS⟩
          case round =>
            obtain ⟨j, hj, rfl, rfl, hok, hSi⟩ := hrel
            rename World => wi
            by_cases hjl : j < n
            · obtain ⟨be, oe, rfl, f⟩ := se2.endD hn hjl
              obtain ⟨hble, e1, e2⟩ := f j hjl wi hSi.out.inv.fz
              have hmem : ends.getD j end0 ∈ ends := by rw [getD_elem0 _ _ _ (by rw [hn.out]; exact hjl)]; exact List.getElem_mem _
              have hgk := hg.out _ hmem
              have g1 : (ends.getD j end0).1.size ≤ 140737488351232 := hgk.1
              have g2 : (ends.getD j end0).2.size ≤ 140737488351232 := hgk.2
              have hfit : Hid (fitB y (ends.getD j end0) = (sufB y (ends.getD j end0).1 && decide (3 ≤ y.size - (ends.getD j end0).1.size))) := Lib.hid rfl
              have hat : Hid (fitB y (ends.getD j end0) = true → endF ends y = y.extract 0 (y.size - (ends.getD j end0).1.size) ++ (ends.getD j end0).2) := Lib.hid (fun h => endF_at hn hjl hok h)
              have hSb := Lib.hid (fun o => hSi.out.alloc o)
              clear f hmem hgk
              generalize (ends.getD j end0).1 = y1 at *
              generalize (ends.getD j end0).2 = y2 at *
              obtain ⟨g, hgq⟩ : ∃ q, Hid (sufB y y1 = q) := ⟨_, Lib.hid rfl⟩
              cases g
              · go_wp2_with (go_at_call 23; refine (HasSuffix_any y y1 _ (by omega) (by omega) hgq).mono ?_; rintro e w' ⟨rfl, rfl⟩)
                go_roundw
                case rel => exact ⟨j + 1, by omega, rfl, by go_num, next_fit hok (by rw [hfit.out, hgq.out]; rfl), Lib.hid (hSb.out _)⟩
                case measure => (simp [intOf] <;> omega)
              · have hsz1 : y1.size ≤ y.size := sufB_size hgq.out
                by_cases h3 : y1.size + 3 ≤ y.size
                · have h3i : (y1.size : Int) + 3 ≤ y.size := by omega
                  obtain ⟨t1, ht1⟩ : ∃ t1, Hid (y.extract 0 (y.size - y1.size) = t1) := ⟨_, Lib.hid rfl⟩
                  have hsz : t1.size = y.size - y1.size := by rw [← ht1.out, ByteArray.size_extract]; omega
                  have hex := ht1.out
                  have hte : t = t1 ++ y2 := by rw [← ht.out, hat.out (by rw [hfit.out, hgq.out]; simp; omega), ht1.out]
                  have ht2 := ht
                  rw [hte] at ht2
                  go_wp2_with (go_at_call 23; refine (HasSuffix_any y y1 _ (by omega) (by omega) hgq).mono ?_; rintro e w' ⟨rfl, rfl⟩)
                  go_quiet (fail)
                  clear hex
                  have hSq := Lib.hid ((hSb.out (.cells #[.string y1, .string y2] 45)).drewN nq)
                  generalize (wi.alloc (.cells #[.string y1, .string y2] 45)).drewN nq = wq at *
                  have hS8 := hSq
                  obtain ⟨φ8, le8, i8, s8, _⟩ := hS8.out.own.release hS8.out.inv
                  have F8 := Lib.hid i8.fz
                  have S8 := Lib.hid s8
                  have hin := Lib.hid hS8.out.inv
                  have hon := Lib.hid hS8.out.own
                  clear i8 s8 le8
                  obtain ⟨p, hp⟩ : ∃ p, Hid (decide ((t1 ++ y2) ∈ out) = p) := ⟨_, Lib.hid rfl⟩
                  cases p
                  · go_wp2_with (first
                      | (go_at_call 20; refine (ContainsS_b _ ao co out (t1 ++ y2) _ φ8 F8.out S8.out (Lib.hid rfl) (by omega) hp).mono ?_; rintro e w' ⟨rfl, rfl⟩)
                      | (at_builtin; (refine wpList_app1F (α := ByteArray) rfl _ _ 23 rfl slS hin.out ao co _ hon.out _ _ (t1 ++ y2) rfl rfl 1 rfl (by omega) ?_; intro a8 c8 w8 hi8 ho8 hg8 hf8)))
                    go_roundw
                    case rel => exact ⟨k + 1, a8, c8, out ++ [(t1 ++ y2)], by omega, by simp, by go_num, rw_new hst hck hq ht2 hp, by simp; omega, Lib.hid ⟨hi8, ho8⟩⟩
                    case measure => (simp [intOf] <;> omega)
                  · go_wp2_with (go_at_call 20; refine (ContainsS_b _ ao co out (t1 ++ y2) _ φ8 F8.out S8.out (Lib.hid rfl) (by omega) hp).mono ?_; rintro e w' ⟨rfl, rfl⟩)
                    go_roundw
                    case rel => exact ⟨k + 1, ao, co, out, by omega, rfl, by go_num, rw_in hst hck hq ht2 hp, by omega, hS8⟩
                    case measure => (simp [intOf] <;> omega)
                · go_wp2_with (go_at_call 23; refine (HasSuffix_any y y1 _ (by omega) (by omega) hgq).mono ?_; rintro e w' ⟨rfl, rfl⟩)
                  go_roundw
                  case rel => exact ⟨j + 1, by omega, rfl, by go_num, next_fit hok (by rw [hfit.out, hgq.out]; simp; omega), Lib.hid (hSb.out _)⟩
                  case measure => (simp [intOf] <;> omega)
            · obtain rfl : j = n := by omega
              obtain rfl : t = y := by rw [← ht.out, endF_none hn hok]
              have hS8 := hSi
              obtain ⟨φ8, le8, i8, s8, _⟩ := hS8.out.own.release hS8.out.inv
              have F8 := Lib.hid i8.fz
              have S8 := Lib.hid s8
              have hin := Lib.hid hS8.out.inv
              have hon := Lib.hid hS8.out.own
              clear i8 s8 le8
              obtain ⟨p, hp⟩ : ∃ p, Hid (decide (t ∈ out) = p) := ⟨_, Lib.hid rfl⟩
              cases p
              · go_wp2_with (first
                  | (go_at_call 20; refine (ContainsS_b _ ao co out t _ φ8 F8.out S8.out (Lib.hid rfl) (by omega) hp).mono ?_; rintro e w' ⟨rfl, rfl⟩)
                  | (at_builtin; (refine wpList_app1F (α := ByteArray) rfl _ _ 23 rfl slS hin.out ao co _ hon.out _ _ t rfl rfl 1 rfl (by omega) ?_; intro a8 c8 w8 hi8 ho8 hg8 hf8)))
                go_roundw
                case rel => exact ⟨k + 1, a8, c8, out ++ [t], by omega, by simp, by go_num, rw_new hst hck hq ht hp, by simp; omega, Lib.hid ⟨hi8, ho8⟩⟩
                case measure => (simp [intOf] <;> omega)
              · go_wp2_with (go_at_call 20; refine (ContainsS_b _ ao co out t _ φ8 F8.out S8.out (Lib.hid rfl) (by omega) hp).mono ?_; rintro e w' ⟨rfl, rfl⟩)
                go_roundw
                case rel => exact ⟨k + 1, ao, co, out, by omega, rfl, by go_num, rw_in hst hck hq ht hp, by omega, hS8⟩
                case measure => (simp [intOf] <;> omega)
        · go_wp2_with (go_at_call 20; refine (ContainsS_b ns a1 c1 stops y _ φ2 hS.out.inv.fz ss2 hns hms hq).mono ?_; rintro e w' ⟨rfl, rfl⟩)
          go_roundw
          case rel => exact ⟨k + 1, ao, co, out, by omega, rfl, by go_num, rw_stop hst hck hq, by omega, hS⟩
          case measure => (simp [intOf] <;> omega)
    · obtain rfl : k = nr := by omega
      have e : Hid (l = out.take 60) := Lib.hid (by rw [← hl.out, ← hst.out, rwK_take])
      obtain ⟨φ', _, hi, hs', _⟩ := hS.out.own.release hS.out.inv
      have HS' := Lib.hid (hs'.take 60)
      have HI := Lib.hid (hI2.out.call hi)
      clear hi hs'
      have hcap := hS.out.own.cap_le.1
      by_cases h60 : out.length ≤ 60
      · go_wp2
        go_ret
        rw [e.out]
        exact ⟨ao, co, φ', by rw [List.take_of_length_le h60]; rfl, HI.out, HS'.out⟩
      · go_wp2
        go_ret
        rw [e.out]
        exact ⟨ao, co, φ', by rw [List.length_take, Nat.min_eq_left (by omega)]; rfl, HI.out, HS'.out⟩
end Go.Proofs.Ytapkkplndhbapaa
