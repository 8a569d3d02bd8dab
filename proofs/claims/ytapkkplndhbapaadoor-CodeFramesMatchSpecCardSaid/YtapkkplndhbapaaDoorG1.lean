/- The walks of the program's Above and Within, and of slices.Equal at []int. Conditions: none beyond what the claim form gives. -/
import Derived.Test.YtapkkplndhbapaaDoorK8
import Derived.Test.YtapkkplndhbapaaDoorF5
namespace Go.Proofs.YtapkkplndhbapaaDoor
open Go.RowKit
set_option linter.unusedVariables false
/-- slices.Equal of two slices that read as one list. -/
theorem EqualI_same (n1 : Nat) (a1 : Option Addr) (c1 : Nat) (xs : List Int) (a2 : Option Addr) (c2 : Nat) (w : World) (φ : Phi) (hφ : Fz φ w) (s1 : SlV φ a1 c1 xs) (hn1 : Hid (xs.length = n1)) (hm1 : n1 ≤ 9223372036854775807) (s2 : SlV φ a2 c2 xs) :
    Calls Tryd.prog 12 #[.slice a1 n1 c1, .slice a2 n1 c2] w (fun e w' => e = .returned (.bool true) ∧ Below w.heap.size w w') := by
  have hb1 : ((n1 : Int) != n1) = false := by simp
  go_enter Tryd.func12, Tryd.ntmps12
  go_wp2
  clear hb1
  go_loopw [13] (fun i wr => ∃ k : Nat, k ≤ n1 ∧ i = .int .i64 k ∧ Hid (Below w.heap.size w wr)) (fun i _ => n1 - (intOf i).toNat)
  case atStart => exact ⟨0, Nat.zero_le _, rfl, Lib.hid (Below.refl _ _)⟩
  case round =>
    obtain ⟨k, hk, rfl, hB⟩ := hrel
    by_cases hlt : k < n1
    · obtain ⟨b1, o1, rfl, f1⟩ := s1.intsD hn1 hlt
      have d1 := (f1 k hlt wr (hφ.below hB.out)).2
      obtain ⟨b2, o2, rfl, f2⟩ := s2.intsD hn1 hlt
      have d2 := (f2 k hlt wr (hφ.below hB.out)).2
      clear f1 f2
      generalize xs.getD k 0 = x at *
      have hne : (x != x) = false := by simp
      go_wp2
      go_quiet (fail)
      go_wp2
      go_roundw
      case rel => exact ⟨k + 1, by omega, by go_num, Lib.hid (bdrewN hB.out _)⟩
      case measure => (simp [intOf] <;> omega)
    · obtain rfl : k = n1 := by omega
      go_wp2
      go_ret
      exact ⟨rfl, hB.out⟩
noncomputable def abovF (l : List Nod) (c : Int) : List Int × Int := if codedF l [c] ≠ 0 then ([], codedF l [c]) else ((upL l c).tail, 0)
/-- What lies behind the first element. -/
theorem SlV.tl {φ : Phi} {b off cap : Nat} {xs : List Int} (h : SlV φ (some ⟨b, off, none⟩) cap xs) : SlV φ (some ⟨b, off + 1, none⟩) (cap - 1) xs.tail := by
  refine ⟨by have := h.capn; rw [List.length_tail]; omega, by have := h.capm; omega, (fun q => by cases q), fun hne => ⟨b, off + 1, rfl, fun k hk => ?_⟩⟩
  rw [List.length_tail] at hk
  obtain ⟨b', off', ha, hc⟩ := h.at_ (by intro e; subst e; simp at hk)
  cases ha
  obtain ⟨cs, h1, h2⟩ := hc (k + 1) (by omega)
  refine ⟨cs, by rw [List.getElem_tail]; exact h1, fun j hj => ?_⟩
  have := h2 j hj
  rw [show off + (k + 1) * Rep.size Int + j = off + 1 + k * Rep.size Int + j by show off + (k + 1) * 1 + j = off + 1 + k * 1 + j; omega] at this
  exact this
set_option maxHeartbeats 1000000 in
theorem Above_any {w : World} {a : Option Addr} {c n : Nat} {l : List Nod} {φ : Phi} (hφ : Fz φ w) (s : SlV φ a c l) (hn : Hid (l.length = n)) (hm : n ≤ 9223372036854775807) (x : Int) :
    Calls Tryd.prog 10 #[.slice a n c, .int .i64 x] w (SlPost (abovF l x) φ w) := by
  go_enter Tryd.func10, Tryd.ntmps10
  go_wp2_with fail
  obtain ⟨φ1, hle, hi1, sx⟩ := SlV.lit (α := Int) hφ 3 (xs := [x]) (arr := #[.int .i64 x]) (RepL.single rfl) (by simp [maxLen])
  refine (coded_any hi1.fz (s.mono hle) hn hm sx (Lib.hid rfl) (by simp)).mono ?_
  obtain ⟨q, hq⟩ : ∃ q, Hid (codedF l [x] = q) := ⟨_, Lib.hid rfl⟩
  rintro e w1 ⟨hb, ⟨h0, rfl⟩ | ⟨h0, hok, hix, bt, m1, m2, rfl, ht⟩⟩
  · rw [hq.out] at h0 ⊢
    have hg : ((q : Int) != 0) = true := by simp [h0]
    have H0 := Lib.hid h0
    have HB := Lib.hid (hi1.bel.trans (hb.mono hi1.bel.size))
    clear h0 hb hi1 sx hle
    go_wp2
    go_ret2
    exact ⟨none, 0, φ, by rw [abovF, hq.out, if_pos H0.out]; rfl, (Inv.start hφ).callB HB.out, by rw [abovF, hq.out, if_pos H0.out]; exact SlV.empty _⟩
  have e : Hid (abovF l x = ((upL l x).tail, 0)) := Lib.hid (by rw [abovF, if_neg (by rw [h0]; simp)])
  have HI := Lib.hid ((Inv.start hφ).callB (hi1.bel.trans (hb.mono hi1.bel.size)))
  have HO := Lib.hid hok
  have HX : Hid ((ix l x).isSome = true) := Lib.hid (hix 0 (by simp))
  have HT := Lib.hid ht
  have hup := Lib.hid (lvl_par hok HX.out).2
  have h8 := upL_len hok (.inr HX.out)
  clear h0 hb hok hix ht hi1 sx hle
  obtain ⟨U, hU⟩ : ∃ U, Hid (upL l x = U) := ⟨_, Lib.hid rfl⟩
  rw [hU.out] at h8 hup
  have hU1 : 1 ≤ U.length := by rw [hup.out]; simp
  go_wp2_with (go_at_call 31; refine (up_any HI.out.fz s HT.out HO x (.inr HX.out)).mono ?_; rw [hU.out]; rintro e w2 ⟨au, cu, φ2, rfl, hi2, ho2⟩; obtain ⟨g, hga, _⟩ := ho2.elem (k := 0) hU1; subst hga; obtain ⟨φ3, _, hi3, s3, _⟩ := ho2.release hi2; have HI3 := Lib.hid (HI.out.call hi3); have S3 := Lib.hid s3; have hcu := ho2.cap_le.1; clear hi2 ho2 hi3 s3)
  all_goals go_ret2
  · have h1 : U.tail = [] := List.eq_nil_of_length_eq_zero (by rw [List.length_tail]; omega)
    have h2 : U.length - 1 = 0 := by omega
    refine ⟨some ⟨g, 0, none⟩, 0, φ3, ?_, HI3.out, ?_⟩
    · rw [e.out, hU.out, h1]
      show Ending.returned (.tuple #[.slice (some ⟨g, 0, none⟩) (U.length - 1) 0, .int .i64 0]) = _
      rw [h2]; rfl
    · rw [e.out, hU.out, h1]
      exact ⟨Nat.le_refl _, by simp [maxLen], (fun q => by cases q), fun q => absurd rfl q⟩
  · refine ⟨some ⟨g, 1, none⟩, cu - 1, φ3, ?_, HI3.out, ?_⟩
    · rw [e.out, hU.out, List.length_tail]; rfl
    · rw [e.out, hU.out]
      have := S3.out.tl
      simpa using this
set_option maxRecDepth 100000 in
set_option maxHeartbeats 1000000 in
theorem PWithin_any {w : World} {a : Option Addr} {c n : Nat} {l : List Nod} {φ : Phi} (hφ : Fz φ w) (s : SlV φ a c l) (hn : Hid (l.length = n)) (hm : n ≤ 9223372036854775807) (x : Int) :
    Calls Tryd.prog 13 #[.slice a n c, .int .i64 x] w (SlPost (witF l x) φ w) := by
  go_enter Tryd.func13, Tryd.ntmps13
  go_wp2_with fail
  obtain ⟨φ1, hle, hi1, sx⟩ := SlV.lit (α := Int) hφ 3 (xs := [x]) (arr := #[.int .i64 x]) (RepL.single rfl) (by simp [maxLen])
  refine (coded_any hi1.fz (s.mono hle) hn hm sx (Lib.hid rfl) (by simp)).mono ?_
  obtain ⟨q, hq⟩ : ∃ q, Hid (codedF l [x] = q) := ⟨_, Lib.hid rfl⟩
  rintro e w1 ⟨hb, ⟨h0, rfl⟩ | ⟨h0, hok, hix, bt, m1, m2, rfl, ht⟩⟩
  · rw [hq.out] at h0 ⊢
    have hg : ((q : Int) != 0) = true := by simp [h0]
    have H0 := Lib.hid h0
    have HB := Lib.hid (hi1.bel.trans (hb.mono hi1.bel.size))
    clear h0 hb hi1 sx hle
    go_wp2
    go_ret2
    exact ⟨none, 0, φ, by rw [witF, hq.out, if_pos H0.out]; rfl, (Inv.start hφ).callB HB.out, by rw [witF, hq.out, if_pos H0.out]; exact SlV.empty _⟩
  have e : Hid (witF l x = (witL l x n, 0)) := Lib.hid (by rw [witF, if_neg (by rw [h0]; simp), hn.out])
  have HB := Lib.hid (hi1.bel.trans (hb.mono hi1.bel.size))
  have HT := Lib.hid hok
  have HTW := Lib.hid ht
  have hn6 : n ≤ 600 := hok.pos.2
  clear h0 hb hok hix ht hi1 sx hle
  have hSt : Hid (OwSt w1 φ 3 none 0 (witL l x 0) w1) := Lib.hid ⟨Inv.start (hφ.below HB.out), Own.nil _ _ _ _⟩
  go_wp2
  go_loopw [8, 23] (fun o i wr => ∃ (k : Nat) (ao : Option Addr) (co : Nat) (xs : List Int), k ≤ n ∧ i = .int .i64 k ∧ o = .slice ao xs.length co ∧ Hid (witL l x k = xs) ∧ Hid (OwSt w1 φ 3 ao co xs wr)) (fun _ i _ => n - (intOf i).toNat)
  case atStart => exact ⟨0, none, 0, [], Nat.zero_le _, rfl, rfl, Lib.hid rfl, hSt⟩
  case round =>
    clear hSt
    obtain ⟨k, ao, co, xs, hk, rfl, rfl, hxs, hSt⟩ := hrel
    by_cases hlt : k < n
    · obtain ⟨b, off, rfl, f⟩ := s.nodesD hn hlt
      obtain ⟨hb, c1, c2, c3⟩ := f k hlt wr hSt.out.inv.fz
      have hsn := Lib.hid (witL_snoc l x k (by rw [hn.out]; exact hlt))
      have hvl : Hid ((ix l (l.getD k nod0).1).isSome = true) := Lib.hid (by have := HT.out.ix_of hlt; rw [show (l.getD k nod0).1 = cod l k from rfl, this]; rfl)
      have hxl : xs.length ≤ 600 := by have := witL_len l x k; rw [hxs.out] at this; omega
      rw [show cod l k = (l.getD k nod0).1 from rfl, hxs.out] at hsn
      clear f
      generalize (l.getD k nod0).1 = m at *
      generalize (l.getD k nod0).2.1 = pa at *
      generalize (l.getD k nod0).2.2 = ti at *
      have hS1 := Lib.hid (hSt.out.alloc (.cells #[.int .i64 m, .int .i64 pa, .string ti] 38))
      have hTW1 := Lib.hid (HTW.out.callB hS1.out.inv.bel)
      have hul := (upL_len HT.out (.inr hvl.out))
      obtain ⟨nu, hnu⟩ : ∃ nu, Hid ((upL l m).length = nu) := ⟨_, Lib.hid rfl⟩
      rw [hnu.out] at hul
      clear hSt
      go_wp2_with fail
      refine (up_any hS1.out.inv.fz s hTW1.out HT m (.inr hvl.out)).mono ?_
      rintro e w2 ⟨au, cu, φ1, rfl, hi1, ho1⟩
      obtain ⟨φ2, _, hi2, su, _⟩ := ho1.release hi1
      rw [hnu.out]
      have hS2 := Lib.hid (hS1.out.callB hi2.bel)
      have hF2 := Lib.hid hi2.fz
      have x0 : w2.cell? ⟨wr.heap.size, 0, none⟩ = some (.int .i64 m) := (hi2.bel.cell (p := ⟨wr.heap.size, 0, none⟩) (by simp)).trans (box_at 0)
      clear hi2 hS1 hi1 ho1
      obtain ⟨bb, hbb⟩ : ∃ bb, Hid (decide (x ∈ upL l m) = bb) := ⟨_, Lib.hid rfl⟩
      go_wp2_with fail
      refine (Contains_b nu au cu _ x _ _ hF2.out su hnu (by omega) hbb.out).mono ?_
      rintro e w' ⟨rfl, rfl⟩
      cases bb with
      | false =>
        have hno : Hid (witL l x (k + 1) = xs) := Lib.hid (by rw [hsn.out, if_neg (by simpa using hbb.out)])
        go_wp2
        go_roundw
        case rel => exact ⟨k + 1, ao, co, xs, by omega, by go_num, rfl, hno, hS2⟩
        case measure => (simp [intOf] <;> omega)
      | true =>
        have hyes : Hid (witL l x (k + 1) = xs ++ [m]) := Lib.hid (by rw [hsn.out, if_pos (by simpa using hbb.out)])
        have hin := hS2.out.inv
        have hon := hS2.out.own
        go_wp2_with (at_builtin; refine wpList_app1 (α := Int) rfl _ _ 27 rfl slI hin ao co _ hon _ _ m rfl rfl 1 rfl (by omega) ?_; intro a2 cap2 w4 hi4 hown4 hgr)
        have hS4 : Hid (OwSt w1 φ 3 a2 cap2 (xs ++ [m]) w4) := Lib.hid ⟨hi4, hown4⟩
        clear hi4 hown4 hgr hin hon
        go_roundw
        case rel => exact ⟨k + 1, a2, cap2, xs ++ [m], by omega, by go_num, by simp, hyes, hS4⟩
        case measure => (simp [intOf] <;> omega)
    · obtain rfl : k = n := by omega
      go_wp2
      go_ret2
      obtain ⟨φ', hle, hi, hs, _⟩ := hSt.out.own.release hSt.out.inv
      exact ⟨ao, co, φ', by rw [e.out, hxs.out]; rfl, ((Inv.start hφ).callB HB.out).call hi, by rw [e.out, hxs.out]; exact hs⟩
end Go.Proofs.YtapkkplndhbapaaDoor
