/- The walk of Strata, the reference's side. Conditions: the library's table of blanks reads as it was laid; texts of a length that a form reaches. -/
import Derived.Test.YtnlhalnjbkpdnaaDoorZ7
import Derived.OwnWalk
namespace Go.Proofs.YtnlhalnjbkpdnaaDoor
open Go.RowKit Go.Sort
set_option linter.unusedVariables false
set_option linter.unusedSimpArgs false
theorem slSm : SliceTy Tryd.prog 23 30 (.agg #[.string ⟨#[]⟩, .int .i64 0, .int .i64 0, .int .i64 0]) (Rep.size Stm) 40 := ⟨Tryd.underlying23, by kernel_rfl, rfl, by decide, by decide⟩
theorem rep_stm (φ : Phi) (u : Stm) : Rep.rep φ u [.string u.1, .int .i64 u.2.1, .int .i64 u.2.2.1, .int .i64 u.2.2.2] :=
  ⟨[.string u.1], [.int .i64 u.2.1, .int .i64 u.2.2.1, .int .i64 u.2.2.2], rfl, rfl, [.int .i64 u.2.1], [.int .i64 u.2.2.1, .int .i64 u.2.2.2], rfl, rfl, [.int .i64 u.2.2.1], [.int .i64 u.2.2.2], rfl, rfl, rfl⟩
theorem sum_pre {xs : List Int} (h : ∀ x ∈ xs, 1 ≤ x ∧ x ≤ 1000000) : 0 ≤ xs.sum ∧ xs.sum ≤ 1000000 * (xs.length : Int) := by
  induction xs with
  | nil => exact ⟨Int.le_refl _, Int.le_refl _⟩
  | cons x xs ih =>
    have h1 := h x (by simp)
    have h2 := ih (fun y hy => h y (by simp [hy]))
    rw [List.sum_cons, List.length_cons]
    omega
theorem sum_pres {xs : List Int} {n : Nat} (hn : xs.length = n) (hl : n ≤ 5000) (h : ∀ x ∈ xs, 1 ≤ x ∧ x ≤ 1000000) : ∀ k, k ≤ n → 0 ≤ (xs.take k).sum ∧ (xs.take k).sum ≤ 5000000000 := by
  intro k hk
  have := sum_pre (xs := xs.take k) (fun x hx => h x (List.mem_of_mem_take hx))
  rw [List.length_take] at this
  omega
set_option maxRecDepth 100000 in
set_option maxHeartbeats 4000000 in
theorem RStrata_any {w : World} {a : Option Addr} {c n : Nat} {l : List Unt} {φ : Phi} (hφ : Fz φ w) (ht : TabP φ) (s : SlV φ a c l) (hn : Hid (l.length = n)) (hm : n ≤ 9223372036854775807) (hs : Hid (∀ u ∈ l, u.2.1.size ≤ reachBytes)) :
    Calls Tryd.prog 5 #[.slice a n c] w (SlPost (stmR l) φ w) := by
  have HF := Lib.hid hφ
  have HS := Lib.hid s
  obtain ⟨q, hq⟩ : ∃ q, Hid (frmU l = q) := ⟨_, Lib.hid rfl⟩
  by_cases h0 : q = 0
  case neg =>
    have hg : ((q : Int) != 0) = true := by simp [h0]
    have hR : Hid (stmR l = ([], q)) := Lib.hid (by unfold stmR; rw [hq.out, if_pos h0])
    clear h0
    go_enter Tryd.func5, Tryd.ntmps5
    go_wp2_with (go_at_call 7; (with_reducible refine (RCheckFrame_any HF.out ht HS.out hn hm hs).mono ?_); rintro e w1 ⟨rfl, hb1⟩; rw [hq.out])
    go_ret2
    exact ⟨none, 0, φ, by rw [hR.out]; rfl, (Inv.start HF.out).callB hb1, by rw [hR.out]; exact SlV.empty _⟩
  subst h0
  have hok := Lib.hid (frm_ok hq.out)
  have hl : n ≤ 5000 := by have := hok.out.1; rw [hn.out] at this; exact this
  have hR : Hid (stmR l = ((nmsL l).map (stmF l), 0)) := Lib.hid (by unfold stmR; rw [hq.out, if_neg (by simp)])
  obtain ⟨ns, hns⟩ : ∃ ns, Hid (nmsL l = ns) := ⟨_, Lib.hid rfl⟩
  obtain ⟨m, hml⟩ : ∃ m, Hid (ns.length = m) := ⟨_, Lib.hid rfl⟩
  have hm40 : m ≤ 40 := by rw [← hml.out, ← hns.out]; exact hok.out.2.1
  go_enter Tryd.func5, Tryd.ntmps5
  go_wp2_with (first
    | (go_at_call 7; (with_reducible refine (RCheckFrame_any HF.out ht HS.out hn hm hs).mono ?_); rintro e w1 ⟨rfl, hb1⟩; rw [hq.out]; have hI1 := Lib.hid ((Inv.start HF.out).callB hb1); clear hb1)
    | (go_at_call 10; (with_reducible refine (Rnames_any hI1.out.fz HS.out hn hl).mono ?_); rintro e w2 ⟨a2, c2, φ2, rfl, hi2, sN⟩; rw [hns.out] at sN ⊢; rw [hml.out]; have hI2 := Lib.hid (hI1.out.call hi2); clear hi2)
    | fail)
  have hS0 : Hid (OwSt w2 φ2 30 none 0 ([] : List Stm) w2) := Lib.hid ⟨Inv.start hI2.out.fz, Own.nil _ _ _ _⟩
  have SL := Lib.hid (HS.out.mono hI2.out.le)
  have hSN := Lib.hid sN
  go_loopw [5, 17] (fun o i wr => ∃ (k : Nat) (ao : Option Addr) (co : Nat) (xs : List Stm), k ≤ m ∧ i = .int .i64 k ∧ o = .slice ao xs.length co ∧ Hid ((ns.take k).map (stmF l) = xs) ∧ Hid (OwSt w2 φ2 30 ao co xs wr)) (fun _ i _ => m - (intOf i).toNat)
  case atStart => exact ⟨0, none, 0, [], Nat.zero_le _, rfl, rfl, Lib.hid rfl, hS0⟩
  case round =>
    clear hS0
    obtain ⟨k, ao, co, xs, hk, rfl, rfl, hxs, hS⟩ := hrel
    have hxl : xs.length ≤ 40 := by rw [← hxs.out, List.length_map, List.length_take]; omega
    by_cases hlt : k < m
    · obtain ⟨b, off, rfl, f⟩ := sN.strsD hml hlt
      obtain ⟨hb, c1⟩ := f k hlt wr hS.out.inv.fz
      have htk := Lib.hid (take_snocD ByteArray.empty ns k m hml.out hlt)
      clear f
      generalize ns.getD k ByteArray.empty = z at *
      have hnx : Hid ((ns.take (k + 1)).map (stmF l) = xs ++ [stmF l z]) := Lib.hid (by rw [htk.out, List.map_append, hxs.out]; rfl)
      obtain ⟨us, hus⟩ : ∃ us, Hid (stU l z = us) := ⟨_, Lib.hid rfl⟩
      obtain ⟨nu, hnu⟩ : ∃ nu, Hid (us.length = nu) := ⟨_, Lib.hid rfl⟩
      have hul : nu ≤ 5000 := by rw [← hnu.out, ← hus.out]; exact Nat.le_trans (stU_len l z) (by rw [hn.out]; exact hl)
      obtain ⟨nc, hnc⟩ : ∃ nc, Hid ((cnsL us).length = nc) := ⟨_, Lib.hid rfl⟩
      obtain ⟨zs, hzs⟩ : ∃ zs, Hid (us.map (fun u => u.2.2.2) = zs) := ⟨_, Lib.hid rfl⟩
      have hzl : Hid (zs.length = nu) := Lib.hid (by rw [← hzs.out, List.length_map, hnu.out])
      have hzb := Lib.hid (sum_pres hzl.out hul (fun x hx => by
        rw [← hzs.out] at hx
        obtain ⟨u, hu, rfl⟩ := List.mem_map.1 hx
        rw [← hus.out] at hu
        exact (hok.out.2.2 u (stU_mem hu)).2.2))
      obtain ⟨sz, hsz⟩ : ∃ sz, Hid (zs.sum = sz) := ⟨_, Lib.hid rfl⟩
      have hst : Hid (stmF l z = (z, (nu : Int), (nc : Int), sz)) := Lib.hid (by
        unfold stmF szU
        rw [hus.out, hnu.out, hnc.out, hzs.out, hsz.out])
      rw [hst.out] at hnx
      have HRP := Lib.hid (fun φ => rep_stm φ (z, (nu : Int), (nc : Int), sz))
      have hSl := Lib.hid (fun φ W (hf : Fz φ W) (hl2 : φ2.le φ) => Rof_any hf (SL.out.mono hl2) hn hl z)
      have LE2 := Lib.hid φ2.le_refl
      go_upto_region 9 with (first
        | (go_at_call 11; (with_reducible refine (hSl.out _ _ hS.out.inv.fz LE2.out).mono ?_); rintro e w3 ⟨a3, c3, φ3, rfl, hi3, s3⟩; rw [hus.out] at s3 ⊢; rw [hnu.out]; have I3 := Lib.hid hi3; have S3 := Lib.hid s3; clear hi3 s3)
        | fail)
      clear c1 hb
      have hS3 := Lib.hid (hS.out.callB I3.out.bel)
      go_wp2_with (first
        | (go_at_call 12; (with_reducible refine (Rclusters_any I3.out.fz S3.out hnu hul).mono ?_); rintro e w4 ⟨a4, c4, φ4, rfl, hi4, s4⟩; rw [hnc.out]; have I4 := Lib.hid hi4; have S4 := Lib.hid (S3.out.mono hi4.le); have hS4 := Lib.hid (hS3.out.callB hi4.bel); clear hi4 s4)
        | (go_at_call 14; (with_reducible refine (Rsizes_any I4.out.fz S4.out hnu hul).mono ?_); rintro e w5 ⟨a5, c5, φ5, rfl, hi5, s5⟩; rw [hzs.out] at s5 ⊢; rw [hzl.out]; have I5 := Lib.hid hi5; have S5 := Lib.hid s5; have hS5 := Lib.hid (hS4.out.callB hi5.bel); clear hi5 s5)
        | (go_at_call 13; (with_reducible refine (Rtotal_any I5.out.fz S5.out hzl hul hzb).mono ?_); rintro e w6 ⟨rfl, rfl⟩; rw [hsz.out]; have hin := hS5.out.inv; have hon := hS5.out.own)
        | (at_builtin; refine wpList_app1 (α := Stm) rfl _ _ 23 rfl slSm hin ao co _ hon _ _ (z, (nu : Int), (nc : Int), sz) (HRP.out _) rfl 1 rfl (by omega) ?_; intro a7 c7 w7 hi7 ho7 hg7)
        | fail)
      have hS7 : Hid (OwSt w2 φ2 30 a7 c7 (xs ++ [(z, (nu : Int), (nc : Int), sz)]) w7) := Lib.hid ⟨hi7, ho7⟩
      clear hi7 ho7 hg7 hin hon
      go_roundw
      case rel => exact ⟨k + 1, a7, c7, xs ++ [(z, (nu : Int), (nc : Int), sz)], by omega, by go_num, by simp, hnx, hS7⟩
      case measure => (simp [intOf] <;> omega)
    · obtain rfl : m = k := by omega
      have ex : ns.take m = ns := by rw [← hml.out, List.take_length]
      rw [ex] at hxs
      go_wp2
      go_ret2
      obtain ⟨φ', hle, hi, hsl, _⟩ := hS.out.own.release hS.out.inv
      exact ⟨ao, co, φ', by rw [hR.out, hns.out, hxs.out]; rfl, hI2.out.call hi, by rw [hR.out, hns.out, hxs.out]; exact hsl⟩
end Go.Proofs.YtnlhalnjbkpdnaaDoor
