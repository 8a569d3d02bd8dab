/- The walks of Finals, on both sides, and of CodeFinalsMatchSpec. Conditions: those that the claim form gives. -/
import Derived.Test.YthnmglckhfajeaaF6
namespace Go.Proofs.Ythnmglckhfajeaa
open Go.RowKit
set_option linter.unusedVariables false

theorem SlV.lists {α : Type} [Rep α] {φ : Phi} {a : Option Addr} {cap : Nat} {gs : List (List α)} (h : SlV φ a cap gs) {k n : Nat} (hn : Hid (gs.length = n)) (hk : k < n) :
    ∃ b off, a = some ⟨b, off, none⟩ ∧ ∀ k, k < n → ∃ ag cg, SlV φ ag cg (gs.getD k []) ∧ ∀ w, Fz φ w → b < w.heap.size ∧ w.cell? ⟨b, off + k, none⟩ = some (.slice ag (gs.getD k []).length cg) := by
  obtain ⟨b, off, ha, hc⟩ := h.cellsD [] hn hk
  refine ⟨b, off, ha, fun k hk => ?_⟩
  obtain ⟨cs, ⟨ag, cg, rfl, hs⟩, hj⟩ := hc k hk
  refine ⟨ag, cg, hs, fun w hw => ?_⟩
  have j0 := hj 0 (by simp)
  simp [Rep.size] at j0
  exact ⟨hw.lt j0, hw.cell j0⟩
theorem slF : SliceTy Try.prog 36 42 (.agg #[.int .i64 0, .int .i64 0, .int .i64 0]) (Rep.size Cdg) 24 := ⟨Try.underlying36, by kernel_rfl, rfl, by decide, by decide⟩
theorem grp_vld {l : List Nod} {cs : List Cdg} (h : frcF l cs = 0) {n : Nat} (hn : cs.length = n) : ∀ g ∈ grpK cs n, g ≠ [] ∧ g.length ≤ n ∧ ∀ x ∈ g, (ix l x.2.2).isSome = true := fun g hg => by
  obtain ⟨h1, h2, h3⟩ := (grpK_ok cs n (by omega)).1 g hg
  exact ⟨h1, h2, fun x hx => cdg_vld h x (h3 x hx)⟩
set_option maxRecDepth 100000 in
set_option maxHeartbeats 2000000 in
theorem Finals_any {w : World} {a : Option Addr} {c n : Nat} {l : List Nod} {φ : Phi} (hφ : Fz φ w) (s : SlV φ a c l) (hn : Hid (l.length = n)) (hm : n ≤ 9223372036854775807) {ac : Option Addr} {cc nc : Nat} {cs : List Cdg} (sc : SlV φ ac cc cs) (hnc : Hid (cs.length = nc)) (hmc : nc ≤ 9223372036854775807) :
    Calls Try.prog 12 #[.slice a n c, .slice ac nc cc] w (SlPost (fnlF l cs) φ w) := by
  go_enter Try.func12, Try.ntmps12
  go_wp2_with fail
  refine (coders_any hφ s hn hm sc hnc hmc).mono ?_
  rintro e w1 ⟨hb, ⟨h0, p, rfl⟩ | ⟨h0, hok, bt, m1, m2, rfl, ht⟩⟩
  · obtain ⟨q, hq⟩ : ∃ q, Hid (frcF l cs = q) := ⟨_, Lib.hid rfl⟩
    rw [hq.out] at h0 ⊢
    have hg : ((q : Int) != 0) = true := by simp [h0]
    have H0 := Lib.hid h0
    have HB := Lib.hid hb
    clear h0 hb
    go_wp2
    go_ret2
    exact ⟨none, 0, φ, by rw [fnlF, hq.out, if_pos H0.out]; rfl, (Inv.start hφ).callB HB.out, by rw [fnlF, hq.out, if_pos H0.out]; exact SlV.empty _⟩
  have H0 := Lib.hid h0
  have HB := Lib.hid hb
  have HO := Lib.hid hok
  have HT := Lib.hid ht
  have hn2 := (cdg_ok hnc h0).1
  clear h0 hb hok ht
  have hF1 := Lib.hid (hφ.below HB.out)
  go_wp2_with fail
  refine (cases_any hF1.out sc hnc hn2).mono ?_
  rintro e w2 ⟨ag0, cg0, φ2, rfl, hi2, sg⟩
  have I2 := Lib.hid (((Inv.start hφ).callB HB.out).call hi2)
  have HT2 := Lib.hid (HT.out.callB hi2.bel)
  clear hi2
  have hgo := Lib.hid (grpK_ok cs nc (by rw [hnc.out]; omega))
  have hgv := Lib.hid (grp_vld H0.out hnc.out)
  obtain ⟨gs, hgs⟩ : ∃ gs, Hid (grpK cs nc = gs) := ⟨_, Lib.hid rfl⟩
  rw [hgs.out] at sg hgo hgv ⊢
  obtain ⟨ng, hng⟩ : ∃ ng, Hid (gs.length = ng) := ⟨_, Lib.hid rfl⟩
  have hng2 : ng ≤ 20000 := by have := hgo.out.2.1; rw [hng.out] at this; omega
  rw [hng.out]
  have e : Hid (fnlF l cs = (gs.map (finF l), 0)) := Lib.hid (by rw [fnlF, if_neg (by simp [H0.out]), hnc.out, hgs.out])
  have hF2 := Lib.hid I2.out.fz
  have s2 := s.mono I2.out.le
  have hSt : Hid (OwSt w2 φ2 42 none 0 ((gs.take 0).map (finF l)) w2) := Lib.hid ⟨Inv.start hF2.out, Own.nil _ _ _ _⟩
  go_wp2
  go_loopw [8, 23] (fun o i wr => ∃ (k : Nat) (ao : Option Addr) (co : Nat) (xs : List Cdg), k ≤ ng ∧ i = .int .i64 k ∧ o = .slice ao xs.length co ∧ Hid ((gs.take k).map (finF l) = xs) ∧ Hid (OwSt w2 φ2 42 ao co xs wr)) (fun _ i _ => ng - (intOf i).toNat)
  case atStart => exact ⟨0, none, 0, [], Nat.zero_le _, rfl, rfl, Lib.hid rfl, hSt⟩
  case round =>
    clear hSt
    obtain ⟨k, ao, co, xs, hk, rfl, rfl, hxs, hSt⟩ := hrel
    by_cases hlt : k < ng
    · obtain ⟨b, off, rfl, f⟩ := sg.lists hng hlt
      obtain ⟨ag, cg, sk, f⟩ := f k hlt
      obtain ⟨hb, c1⟩ := f wr hSt.out.inv.fz
      have htk := Lib.hid (take_snocD [] gs k ng hng.out hlt)
      obtain ⟨v1, v2, v3⟩ := hgv.out _ (take_getD gs [] k (by rw [hng.out]; exact hlt))
      have V3 := Lib.hid v3
      have hpos : 0 < (gs.getD k []).length := List.length_pos_iff.2 v1
      have hxl : xs.length ≤ 20000 := by rw [← hxs.out, List.length_map, List.length_take]; omega
      clear f v1 v3
      generalize gs.getD k [] = g at *
      obtain ⟨nk, hnk⟩ : ∃ nk, Hid (g.length = nk) := ⟨_, Lib.hid rfl⟩
      rw [hnk.out] at c1 v2 hpos
      go_wp2_with fail
      refine (final_any hSt.out.inv.fz s2 (HT2.out.callB hSt.out.inv.bel) HO sk hnk hpos (by omega) V3).mono ?_
      rintro e3 w3 ⟨r, hr, rfl, hb3⟩
      have hS3 := Lib.hid (hSt.out.callB hb3)
      have HR := Lib.hid hr
      obtain ⟨r1, r2, r3⟩ := r
      dsimp only
      clear hr hb3 hSt c1 hb
      have hin := hS3.out.inv
      have hon := hS3.out.own
      go_wp2_with (at_builtin; refine wpList_app1 (α := Cdg) rfl _ _ 36 rfl slF hin ao co _ hon _ _ (r1, r2, r3) ⟨[.int .i64 r1], [.int .i64 r2, .int .i64 r3], rfl, rfl, [.int .i64 r2], [.int .i64 r3], rfl, rfl, rfl⟩ rfl 1 rfl (by omega) ?_; intro a2 cap2 w4 hi4 hown4 hgr)
      have hS4 : Hid (OwSt w2 φ2 42 a2 cap2 (xs ++ [(r1, r2, r3)]) w4) := Lib.hid ⟨hi4, hown4⟩
      clear hi4 hown4 hgr hin hon
      go_roundw
      case rel => exact ⟨k + 1, a2, cap2, xs ++ [(r1, r2, r3)], by omega, by go_num, by simp, Lib.hid (by rw [htk.out, List.map_append, hxs.out, List.map_singleton, HR.out]), hS4⟩
      case measure => simp [intOf]; omega
    · obtain rfl : k = ng := by omega
      have ex : gs.take k = gs := by rw [← hng.out, List.take_length]
      rw [ex] at hxs
      go_wp2
      go_ret2
      obtain ⟨φ', hle, hi, hs, _⟩ := hSt.out.own.release hSt.out.inv
      exact ⟨ao, co, φ', by rw [e.out, hxs.out]; rfl, I2.out.call hi, by rw [e.out, hxs.out]; exact hs⟩
set_option maxRecDepth 100000 in
set_option maxHeartbeats 2000000 in
theorem RFinals_any {w : World} {a : Option Addr} {c n : Nat} {l : List Nod} {φ : Phi} (hφ : Fz φ w) (s : SlV φ a c l) (hn : Hid (l.length = n)) (hm : n ≤ 9223372036854775807) {ac : Option Addr} {cc nc : Nat} {cs : List Cdg} (sc : SlV φ ac cc cs) (hnc : Hid (cs.length = nc)) (hmc : nc ≤ 9223372036854775807) :
    Calls Try.prog 13 #[.slice a n c, .slice ac nc cc] w (SlPost (fnlF l cs) φ w) := by
  go_enter Try.func13, Try.ntmps13
  go_wp2_with fail
  refine (RCheckCodings_any hφ s hn hm sc hnc hmc).mono ?_
  rintro e w1 ⟨rfl, hb⟩
  by_cases h0 : frcF l cs = 0
  case neg =>
    obtain ⟨q, hq⟩ : ∃ q, Hid (frcF l cs = q) := ⟨_, Lib.hid rfl⟩
    rw [hq.out] at h0 ⊢
    have hg : ((q : Int) != 0) = true := by simp [h0]
    have H0 := Lib.hid h0
    have HB := Lib.hid hb
    clear h0 hb
    go_wp2
    go_ret2
    exact ⟨none, 0, φ, by rw [fnlF, hq.out, if_pos H0.out]; rfl, (Inv.start hφ).callB HB.out, by rw [fnlF, hq.out, if_pos H0.out]; exact SlV.empty _⟩
  rw [h0]
  have H0 := Lib.hid h0
  have HB := Lib.hid hb
  have hn2 := (cdg_ok hnc h0).1
  have HO : Hid (TrOk l n) := Lib.hid (by have := treeF_zero (cdg_ok hnc h0).2.1; rwa [hn.out] at this)
  clear h0 hb
  have hF1 := Lib.hid (hφ.below HB.out)
  go_wp2_with fail
  refine (Rcases_any hF1.out sc hnc hn2).mono ?_
  rintro e w2 ⟨ag0, cg0, φ2, rfl, hi2, sg⟩
  have I2 := Lib.hid (((Inv.start hφ).callB HB.out).call hi2)
  clear hi2
  have hgo := Lib.hid (grpK_ok cs nc (by rw [hnc.out]; omega))
  have hgv := Lib.hid (grp_vld H0.out hnc.out)
  obtain ⟨gs, hgs⟩ : ∃ gs, Hid (grpK cs nc = gs) := ⟨_, Lib.hid rfl⟩
  rw [hgs.out] at sg hgo hgv ⊢
  obtain ⟨ng, hng⟩ : ∃ ng, Hid (gs.length = ng) := ⟨_, Lib.hid rfl⟩
  have hng2 : ng ≤ 20000 := by have := hgo.out.2.1; rw [hng.out] at this; omega
  rw [hng.out]
  have e : Hid (fnlF l cs = (gs.map (finF l), 0)) := Lib.hid (by rw [fnlF, if_neg (by simp [H0.out]), hnc.out, hgs.out])
  have hF2 := Lib.hid I2.out.fz
  have s2 := s.mono I2.out.le
  have hSt : Hid (OwSt w2 φ2 42 none 0 ((gs.take 0).map (finF l)) w2) := Lib.hid ⟨Inv.start hF2.out, Own.nil _ _ _ _⟩
  go_wp2
  go_loopw [7, 19] (fun o i wr => ∃ (k : Nat) (ao : Option Addr) (co : Nat) (xs : List Cdg), k ≤ ng ∧ i = .int .i64 k ∧ o = .slice ao xs.length co ∧ Hid ((gs.take k).map (finF l) = xs) ∧ Hid (OwSt w2 φ2 42 ao co xs wr)) (fun _ i _ => ng - (intOf i).toNat)
  case atStart => exact ⟨0, none, 0, [], Nat.zero_le _, rfl, rfl, Lib.hid rfl, hSt⟩
  case round =>
    clear hSt
    obtain ⟨k, ao, co, xs, hk, rfl, rfl, hxs, hSt⟩ := hrel
    by_cases hlt : k < ng
    · obtain ⟨b, off, rfl, f⟩ := sg.lists hng hlt
      obtain ⟨ag, cg, sk, f⟩ := f k hlt
      obtain ⟨hb, c1⟩ := f wr hSt.out.inv.fz
      have htk := Lib.hid (take_snocD [] gs k ng hng.out hlt)
      obtain ⟨v1, v2, v3⟩ := hgv.out _ (take_getD gs [] k (by rw [hng.out]; exact hlt))
      have V3 := Lib.hid v3
      have hpos : 0 < (gs.getD k []).length := List.length_pos_iff.2 v1
      have hxl : xs.length ≤ 20000 := by rw [← hxs.out, List.length_map, List.length_take]; omega
      clear f v1 v3
      generalize gs.getD k [] = g at *
      obtain ⟨nk, hnk⟩ : ∃ nk, Hid (g.length = nk) := ⟨_, Lib.hid rfl⟩
      rw [hnk.out] at c1 v2 hpos
      go_wp2_with fail
      refine (Rfinal_any hSt.out.inv.fz s2 HO sk hnk hpos (by omega) V3).mono ?_
      rintro e3 w3 ⟨r, hr, rfl, hb3⟩
      have hS3 := Lib.hid (hSt.out.callB hb3)
      have HR := Lib.hid hr
      obtain ⟨r1, r2, r3⟩ := r
      dsimp only
      clear hr hb3 hSt c1 hb
      have hin := hS3.out.inv
      have hon := hS3.out.own
      go_wp2_with (at_builtin; refine wpList_app1 (α := Cdg) rfl _ _ 36 rfl slF hin ao co _ hon _ _ (r1, r2, r3) ⟨[.int .i64 r1], [.int .i64 r2, .int .i64 r3], rfl, rfl, [.int .i64 r2], [.int .i64 r3], rfl, rfl, rfl⟩ rfl 1 rfl (by omega) ?_; intro a2 cap2 w4 hi4 hown4 hgr)
      have hS4 : Hid (OwSt w2 φ2 42 a2 cap2 (xs ++ [(r1, r2, r3)]) w4) := Lib.hid ⟨hi4, hown4⟩
      clear hi4 hown4 hgr hin hon
      go_roundw
      case rel => exact ⟨k + 1, a2, cap2, xs ++ [(r1, r2, r3)], by omega, by go_num, by simp, Lib.hid (by rw [htk.out, List.map_append, hxs.out, List.map_singleton, HR.out]), hS4⟩
      case measure => simp [intOf]; omega
    · obtain rfl : k = ng := by omega
      have ex : gs.take k = gs := by rw [← hng.out, List.take_length]
      rw [ex] at hxs
      go_wp2
      go_ret2
      obtain ⟨φ', hle, hi, hs, _⟩ := hSt.out.own.release hSt.out.inv
      exact ⟨ao, co, φ', by rw [e.out, hxs.out]; rfl, I2.out.call hi, by rw [e.out, hxs.out]; exact hs⟩
theorem EqualF_t (n : Nat) (a : Option Addr) (cap : Nat) (xs : List Cdg) (m : Nat) (a2 : Option Addr) (cap2 : Nat) (ys : List Cdg) (w : World) (φ : Phi) (hφ : Fz φ w) (hs : SlV φ a cap xs) (hs2 : SlV φ a2 cap2 ys) (h1 : Hid (xs.length = n)) (h2 : Hid (ys.length = m)) (hl : n ≤ 9223372036854775807) (he : xs = ys) :
    Calls Try.prog 16 #[.slice a n cap, .slice a2 m cap2] w fun e w' => e = .returned (.bool true) ∧ Below w.heap.size w w' := by
  have := EqualF n a cap xs m a2 cap2 ys w φ hφ hs hs2 h1 h2 hl; rwa [decide_eq_true he] at this
set_option maxRecDepth 100000 in
set_option maxHeartbeats 1000000 in
theorem finals_core {w : World} {φ : Phi} (hφ : Fz φ w) {a : Option Addr} {c n : Nat} {l : List Nod} (s : SlV φ a c l) (hn : Hid (l.length = n)) (hm : n ≤ 9223372036854775807) {ac : Option Addr} {cc nc : Nat} {cs : List Cdg} (sc : SlV φ ac cc cs) (hnc : Hid (cs.length = nc)) (hmc : nc ≤ 9223372036854775807) :
    Calls Try.prog 5 #[.slice a n c, .slice ac nc cc] w fun e w' => e = .returned (.bool true) ∧ Below w.heap.size w w' := by
  have hl1 : (fnlF l cs).1.length ≤ nc := by
    unfold fnlF
    split
    · simp
    · have := (grpK_ok cs nc (by rw [hnc.out]; omega)).2.1; rw [hnc.out]; simpa using this
  obtain ⟨⟨xs, q1⟩, hr1⟩ : ∃ r, Hid (fnlF l cs = r) := ⟨_, Lib.hid rfl⟩
  rw [hr1.out] at hl1
  dsimp only at hl1
  obtain ⟨nx, hnx⟩ : ∃ nx, Hid (xs.length = nx) := ⟨_, Lib.hid rfl⟩
  rw [hnx.out] at hl1
  obtain ⟨q, hq⟩ : ∃ q, Hid (frcF l cs = q) := ⟨_, Lib.hid rfl⟩
  have f1 : (q == q) = true := by simp
  have f2 : (q1 == q1) = true := by simp
  go_enter Try.func5, Try.ntmps5
  go_wp2_with fail
  refine (Finals_any hφ s hn hm sc hnc hmc).mono ?_
  rintro e w1 ⟨a1, c1, φ1, rfl, hi1, s1⟩
  have I1 := Lib.hid hi1
  rw [hr1.out] at s1 ⊢
  dsimp only at s1 ⊢
  rw [hnx.out]
  clear hi1
  go_wp2_with fail
  refine (RFinals_any I1.out.fz (s.mono I1.out.le) hn hm (sc.mono I1.out.le) hnc hmc).mono ?_
  rintro e w2 ⟨a2, c2, φ2, rfl, hi2, s2⟩
  have I2 := Lib.hid (I1.out.call hi2)
  have s1' := s1.mono hi2.le
  rw [hr1.out] at s2 ⊢
  dsimp only at s2 ⊢
  rw [hnx.out]
  clear hi2 s1 I1
  go_wp2_with fail
  refine (CheckCodings_any I2.out.fz (s.mono I2.out.le) hn hm (sc.mono I2.out.le) hnc hmc).mono ?_
  rintro e w3 ⟨rfl, hb⟩
  have I3 := Lib.hid (I2.out.callB hb)
  rw [hq.out]
  clear hb I2
  go_wp2_with fail
  refine (RCheckCodings_any I3.out.fz (s.mono I3.out.le) hn hm (sc.mono I3.out.le) hnc hmc).mono ?_
  rintro e w4 ⟨rfl, hb⟩
  have I4 := Lib.hid (I3.out.callB hb)
  rw [hq.out]
  clear hb I3
  go_wp2_with fail
  refine (EqualF_t nx a1 c1 xs nx a2 c2 xs w4 φ2 I4.out.fz s1' s2 hnx hnx (by omega) rfl).mono ?_
  rintro e w5 ⟨rfl, hb⟩
  have I5 := Lib.hid (I4.out.callB hb)
  clear hb I4
  go_wp2
  go_ret
  exact ⟨rfl, I5.out.bel⟩
theorem codeFinalsMatchSpec_walk (w : World) (φ : Phi) (hφ : Fz φ w) (ad : Option Addr) (cp : Nat) (l : List Nod) (s : SlV φ ad cp l) (g : l.length * Try.prog.bytesOf 68 ≤ reachBytes ∧ ∀ x ∈ l, IsI64 x.1 ∧ IsI64 x.2.1 ∧ StrG x.2.2)
    (ac : Option Addr) (cc : Nat) (cs : List Cdg) (sc : SlV φ ac cc cs) (gc : cs.length * Try.prog.bytesOf 32 ≤ reachBytes ∧ ∀ x ∈ cs, IsI64 x.1 ∧ IsI64 x.2.1 ∧ IsI64 x.2.2) :
    Calls Try.prog 5 #[.slice ad l.length cp, .slice ac cs.length cc] w fun e w' => e = .returned (.bool true) ∧ Below w.heap.size w w' :=
  finals_core hφ s (Lib.hid rfl) (nodes_len g.1) sc (Lib.hid rfl) (cdgs_len gc.1)
end Go.Proofs.Ythnmglckhfajeaa
