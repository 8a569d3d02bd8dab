/- Designs: the plain law of their faults. Sizes of units and of clusters: the walks of sizesOf, clusterSizes (program) and cluster, sizesOf (reference). Sizes of clusters: the walk of sizesOf, the reference's side. Conditions: the units' numbers are in their ranges. Sizes of clusters: the walk of clusterSizes, the program's side. slices.Max at slices that read as lists. Conditions: the slice is not empty. Conditions: none beyond what the claim form gives. -/
import Derived.Test.YtnlhalnjbkpdnaaGreatDoorZA
import Derived.Lib.Slices
import Derived.Test.YtnlhalnjbkpdnaaGreatDoorZ11
import Derived.Test.YtnlhalnjbkpdnaaGreatDoorZE
import Derived.Test.YtnlhalnjbkpdnaaGreatDoorSh8
namespace Go.Proofs.YtnlhalnjbkpdnaaGreatDoor
set_option linter.unusedVariables false
set_option linter.unusedSimpArgs false
abbrev Tak := ByteArray × Int × Int
def tak0 : Tak := (ByteArray.empty, 0, 0)
/-- What is drawn of a stratum: sizes of units, or of clusters. -/
def szL (l : List Unt) : List Int := l.map (fun u => u.2.2.2)
def csL (l : List Unt) : List Int := (cnsL l).map (fun c => szU (clU l c))
def elmL (kind : Int) (l : List Unt) : List Int := if kind = 3 then csL l else szL l
def mxL (xs : List Int) : Int := Lib.maxOf xs
/-- The fewest units that a cluster has. -/
def fewL (l : List Unt) : Int := (cnsL l).foldl (fun m c => min m ((clU l c).length : Int)) (l.length : Int)
/-- The error of a Take for the units of a stratum. -/
def takF (kind : Int) (t : Tak) (l : List Unt) : Int :=
  if kind ≠ 3 ∧ t.2.2 ≠ 0 then 3
  else if t.2.1 < 0 ∨ ((elmL kind l).length : Int) < t.2.1 then 1
  else if kind = 1 then 0
  else if szU l < t.2.1 * mxL (elmL kind l) then 1
  else if kind = 3 ∧ (t.2.2 < 1 ∨ fewL l < t.2.2) then 1 else 0
noncomputable def dsgF (kind : Int) (ts : List Tak) (l : List Unt) : Int :=
  if frmU l ≠ 0 then frmU l
  else if outB kind 1 3 = true then 4
  else if ts.map (·.1) ≠ nmsL l then 3
  else scan (fun i => takF kind (ts.getD i tak0) (stU l (ts.getD i tak0).1)) ts.length
/-- The clusters' sizes come to the stratum's. -/
theorem szU_cons (u : Unt) (l : List Unt) : szU (u :: l) = u.2.2.2 + szU l := by unfold szU; rw [List.map_cons, List.sum_cons]
theorem clU_cons (u : Unt) (l : List Unt) (c : Int) : clU (u :: l) c = if u.2.2.1 = c then u :: clU l c else clU l c := by
  unfold clU; rw [List.filter_cons]; by_cases h : u.2.2.1 = c <;> simp [h]
theorem sum_oneI : ∀ {S : List Int}, S.Nodup → ∀ (c v : Int), (S.map (fun x => if c = x then v else 0)).sum = if c ∈ S then v else 0
  | [], _, c, v => by simp
  | x :: S, hn, c, v => by
    rw [List.nodup_cons] at hn
    rw [List.map_cons, List.sum_cons, sum_oneI hn.2]
    by_cases h : c = x
    · subst h
      simp [hn.1]
    · simp [h]
theorem sum_addI (S : List Int) (f g : Int → Int) : (S.map (fun x => f x + g x)).sum = (S.map f).sum + (S.map g).sum := by
  induction S with
  | nil => rfl
  | cons x S ih => simp only [List.map_cons, List.sum_cons, ih]; omega
theorem sum_clusters : ∀ {l : List Unt} {S : List Int}, S.Nodup → (∀ u ∈ l, u.2.2.1 ∈ S) → (S.map (fun c => szU (clU l c))).sum = szU l
  | [], S, hn, _ => by
    have e : (fun c => szU (clU [] c)) = fun _ => (0 : Int) := by funext c; rfl
    rw [e]
    have : ∀ T : List Int, (T.map (fun _ => (0 : Int))).sum = 0 := fun T => by induction T with
      | nil => rfl
      | cons x T ih => rw [List.map_cons, List.sum_cons, ih]; rfl
    rw [this]
    rfl
  | u :: l, S, hn, h => by
    have e : (fun c => szU (clU (u :: l) c)) = fun c => (if u.2.2.1 = c then u.2.2.2 else 0) + szU (clU l c) := by
      funext c
      rw [clU_cons]
      split
      · rw [szU_cons]
      · omega
    rw [e, sum_addI, sum_clusters hn (fun v hv => h v (by simp [hv])), sum_oneI hn, if_pos (h u (by simp)), szU_cons]
theorem csL_sum (l : List Unt) : (csL l).sum = szU l := by
  unfold csL
  exact sum_clusters (by unfold cnsL; exact (risI_pw _).imp (fun {a b} h e => by omega)) (fun u hu => mem_cnsL.2 ⟨u, hu, rfl⟩)
theorem elm_sum (kind : Int) (l : List Unt) : (elmL kind l).sum = szU l := by
  unfold elmL; split
  · exact csL_sum l
  · rfl
/-- No more than the fewest: no more than any cluster has. -/
theorem few_fold (l : List Unt) (x : Int) : ∀ (S : List Int) (m : Int), x ≤ S.foldl (fun m c => min m ((clU l c).length : Int)) m ↔ x ≤ m ∧ ∀ c ∈ S, x ≤ ((clU l c).length : Int)
  | [], m => by simp
  | c :: S, m => by
    rw [List.foldl_cons, few_fold l x S]
    constructor
    · rintro ⟨h1, h2⟩
      refine ⟨by omega, fun d hd => ?_⟩
      rcases List.mem_cons.1 hd with rfl | hd
      · omega
      · exact h2 d hd
    · rintro ⟨h1, h2⟩
      have h3 := h2 c (by simp)
      exact ⟨by omega, fun d hd => h2 d (by simp [hd])⟩
theorem few_le {l : List Unt} {x : Int} (h0 : l ≠ []) : fewL l < x ↔ ∃ c ∈ cnsL l, ((clU l c).length : Int) < x := by
  have h := few_fold l x (cnsL l) (l.length : Int)
  have hne : ∃ c, c ∈ cnsL l := by
    obtain ⟨u, hu⟩ := List.exists_mem_of_ne_nil _ h0
    exact ⟨u.2.2.1, mem_cnsL.2 ⟨u, hu, rfl⟩⟩
  unfold fewL
  constructor
  · intro hlt
    apply Classical.byContradiction
    intro hno
    have hall : ∀ c ∈ cnsL l, x ≤ ((clU l c).length : Int) := fun c hc => by
      apply Classical.byContradiction
      intro q
      exact hno ⟨c, hc, by omega⟩
    obtain ⟨c, hc⟩ := hne
    have h1 := hall c hc
    have h2 := clU_len l c
    have := h.2 ⟨by omega, hall⟩
    omega
  · rintro ⟨c, hc, hlt⟩
    apply Classical.byContradiction
    intro q
    have := (h.1 (by omega)).2 c hc
    omega
end Go.Proofs.YtnlhalnjbkpdnaaGreatDoor

namespace Go.Proofs.YtnlhalnjbkpdnaaGreatDoor
open Go.RowKit Go.Sort
set_option linter.unusedVariables false
set_option linter.unusedSimpArgs false
set_option maxHeartbeats 1000000 in
theorem PsizesOf_any {w : World} {a : Option Addr} {c n : Nat} {l : List Unt} {φ : Phi} (hφ : Fz φ w) (s : SlV φ a c l) (hn : Hid (l.length = n)) (hl : n ≤ 5000) :
    Calls Tryz.prog 106 #[.slice a n c] w (SlP (szL l) φ w) := by
  have hS0 : Hid (OwSt w φ 3 none 0 ([] : List Int) w) := Lib.hid ⟨Inv.start hφ, Own.nil _ _ _ _⟩
  go_enter Tryz.func106, Tryz.ntmps106
  go_wp2
  go_loopw [3, 8] (fun o i wr => ∃ (k : Nat) (ao : Option Addr) (co : Nat) (xs : List Int), k ≤ n ∧ i = .int .i64 k ∧ o = .slice ao xs.length co ∧ Hid ((l.take k).map (fun u => u.2.2.2) = xs) ∧ Hid (OwSt w φ 3 ao co xs wr)) (fun _ i _ => n - (intOf i).toNat)
  case atStart => exact ⟨0, none, 0, [], Nat.zero_le _, rfl, rfl, Lib.hid rfl, hS0⟩
  case round =>
    clear hS0
    obtain ⟨k, ao, co, xs, hk, rfl, rfl, hxs, hS⟩ := hrel
    have hxl : xs.length ≤ 5000 := by rw [← hxs.out, List.length_map, List.length_take]; omega
    by_cases hlt : k < n
    · obtain ⟨b, off, rfl, f⟩ := s.untD hn hlt
      obtain ⟨hb, c1, c2, c3, c4⟩ := f k hlt wr hS.out.inv.fz
      have htk := Lib.hid (take_snocD unt0 l k n hn.out hlt)
      clear f
      generalize hU : l.getD k unt0 = U at *
      obtain ⟨u1, u2, u3, u4⟩ := U
      dsimp only at c1 c2 c3 c4
      have hnx : Hid ((l.take (k + 1)).map (fun u => u.2.2.2) = xs ++ [u4]) := Lib.hid (by rw [htk.out, List.map_append, hxs.out]; rfl)
      have hS2 := Lib.hid (OwSt.alloc hS.out (.cells #[.int .i64 u1, .string u2, .int .i64 u3, .int .i64 u4] 64))
      clear hU htk hS
      have hK := Lib.hid (Blk.new wr #[.int .i64 u1, .string u2, .int .i64 u3, .int .i64 u4] 64)
      go_upto_region 5 with (fail)
      clear c1 c2 c3 c4 hb
      generalize wr.alloc (.cells #[.int .i64 u1, .string u2, .int .i64 u3, .int .i64 u4] 64) = wj at *
      generalize wr.heap.size = bj at *
      have y0 : wj.cell? ⟨bj, 0, none⟩ = some (.int .i64 u1) := hK.out.cell 0
      have y1 : wj.cell? ⟨bj, 1, none⟩ = some (.string u2) := hK.out.cell 1
      have y2 : wj.cell? ⟨bj, 2, none⟩ = some (.int .i64 u3) := hK.out.cell 2
      have y3 : wj.cell? ⟨bj, 3, none⟩ = some (.int .i64 u4) := hK.out.cell 3
      have hin := hS2.out.inv
      have hon := hS2.out.own
      go_wp2_with (at_builtin; refine wpList_app1 (α := Int) rfl _ _ 48 rfl slI hin ao co _ hon _ _ (u4) rfl rfl 1 rfl (by omega) ?_; intro a2 cap2 w5 hi5 hown5 hgr)
      have hS5 : Hid (OwSt w φ 3 a2 cap2 (xs ++ [u4]) w5) := Lib.hid ⟨hi5, hown5⟩
      clear hi5 hown5 hgr hin hon hS2
      go_roundw
      case rel => exact ⟨k + 1, a2, cap2, xs ++ [u4], by omega, by go_num, by simp, hnx, hS5⟩
      case measure => (simp [intOf] <;> omega)
    · obtain rfl : n = k := by omega
      have ex : l.take n = l := by rw [← hn.out, List.take_length]
      rw [ex] at hxs
      have hin := hS.out.inv
      have hon := hS.out.own
      clear hS ex
      go_wp2
      go_ret
      obtain ⟨φ', hle, hi, hs, _⟩ := hon.release hin
      exact ⟨ao, co, φ', by unfold szL; rw [hxs.out]; rfl, hi, by unfold szL; rw [hxs.out]; exact hs⟩
def clu0 : Clu := (0, 0, [])
theorem SlV.cluD {φ : Phi} {a : Option Addr} {cap : Nat} {xs : List Clu} (h : SlV φ a cap xs) {k n : Nat} (hn : Hid (xs.length = n)) (hk : k < n) :
    ∃ b off, a = some ⟨b, off, none⟩ ∧ ∀ k, k < n → ∃ (a1 : Option Addr) (c1 : Nat), SlV φ a1 c1 (xs.getD k clu0).2.2 ∧ ∀ w, Fz φ w → b < w.heap.size ∧ w.cell? ⟨b, off + k * 3, none⟩ = some (.int .i64 (xs.getD k clu0).1) ∧ w.cell? ⟨b, off + k * 3 + 1, none⟩ = some (.int .i64 (xs.getD k clu0).2.1) ∧ w.cell? ⟨b, off + k * 3 + 2, none⟩ = some (.slice a1 (xs.getD k clu0).2.2.length c1) := by
  obtain ⟨b, off, ha, hc⟩ := h.cellsD clu0 hn hk
  refine ⟨b, off, ha, fun k hk => ?_⟩
  obtain ⟨cs, ⟨c, d, rfl, h1, x2, d2, rfl, h2, ⟨a1, c1, rfl, h3⟩⟩, hj⟩ := hc k hk
  cases h1; cases h2
  have j0 := hj 0 (by simp)
  have j1 := hj 1 (by simp)
  have j2 := hj 2 (by simp)
  simp [Rep.size] at j0 j1 j2
  exact ⟨a1, c1, h3, fun w hw => ⟨hw.lt j0, hw.cell j0, hw.cell j1, hw.cell j2⟩⟩
set_option maxHeartbeats 1000000 in
theorem Rcluster_any {w : World} {a : Option Addr} {c n : Nat} {l : List Unt} {φ : Phi} (hφ : Fz φ w) (s : SlV φ a c l) (hn : Hid (l.length = n)) (hl : n ≤ 5000) (z : Int) :
    Calls Tryz.prog 93 #[.slice a n c, .int .i64 z] w (SlP (clU l z) φ w) := by
  have hS0 : Hid (OwSt w φ 64 none 0 (clU (l.take 0) z) w) := Lib.hid ⟨Inv.start hφ, Own.nil _ _ _ _⟩
  go_enter Tryz.func93, Tryz.ntmps93
  go_wp2
  go_loopw [5, 10] (fun o i wr => ∃ (k : Nat) (ao : Option Addr) (co : Nat) (xs : List Unt), k ≤ n ∧ i = .int .i64 k ∧ o = .slice ao xs.length co ∧ Hid (clU (l.take k) z = xs) ∧ Hid (OwSt w φ 64 ao co xs wr)) (fun _ i _ => n - (intOf i).toNat)
  case atStart => exact ⟨0, none, 0, [], Nat.zero_le _, rfl, rfl, Lib.hid rfl, hS0⟩
  case round =>
    clear hS0
    obtain ⟨k, ao, co, xs, hk, rfl, rfl, hxs, hS⟩ := hrel
    have hxl : xs.length ≤ 5000 := by rw [← hxs.out]; have := clU_len (l.take k) z; rw [List.length_take] at this; omega
    by_cases hlt : k < n
    · obtain ⟨b, off, rfl, f⟩ := s.untD hn hlt
      obtain ⟨hb, c1, c2, c3, c4⟩ := f k hlt wr hS.out.inv.fz
      have htk := Lib.hid (take_snocD unt0 l k n hn.out hlt)
      clear f
      generalize hU : l.getD k unt0 = U at *
      obtain ⟨u1, u2, u3, u4⟩ := U
      dsimp only at c1 c2 c3 c4
      have hnx : Hid (clU (l.take (k + 1)) z = if u3 = z then xs ++ [(u1, u2, u3, u4)] else xs) := Lib.hid (by rw [htk.out, clU_snoc, hxs.out])
      have hS2 := Lib.hid (OwSt.alloc hS.out (.cells #[.int .i64 u1, .string u2, .int .i64 u3, .int .i64 u4] 64))
      clear hU htk hS
      have hK := Lib.hid (Blk.new wr #[.int .i64 u1, .string u2, .int .i64 u3, .int .i64 u4] 64)
      go_upto_region 5 with (fail)
      clear c1 c2 c3 c4 hb
      generalize wr.alloc (.cells #[.int .i64 u1, .string u2, .int .i64 u3, .int .i64 u4] 64) = wj at *
      generalize wr.heap.size = bj at *
      have y0 : wj.cell? ⟨bj, 0, none⟩ = some (.int .i64 u1) := hK.out.cell 0
      have y1 : wj.cell? ⟨bj, 1, none⟩ = some (.string u2) := hK.out.cell 1
      have y2 : wj.cell? ⟨bj, 2, none⟩ = some (.int .i64 u3) := hK.out.cell 2
      have y3 : wj.cell? ⟨bj, 3, none⟩ = some (.int .i64 u4) := hK.out.cell 3
      by_cases hz : u3 = z
      · rw [if_pos hz] at hnx
        have hq : ((u3 : Int) == z) = true := by simp [hz]
        have hin := hS2.out.inv
        have hon := hS2.out.own
        have HRP := Lib.hid (fun φ => rep_unt φ (u1, u2, u3, u4))
        clear hz
        go_wp2_with (at_builtin; refine wpList_app1 (α := Unt) rfl _ _ 25 rfl slUn hin ao co _ hon _ _ (u1, u2, u3, u4) (HRP.out _) rfl 1 rfl (by omega) ?_; intro a2 cap2 w5 hi5 hown5 hgr)
        have hS5 : Hid (OwSt w φ 64 a2 cap2 (xs ++ [(u1, u2, u3, u4)]) w5) := Lib.hid ⟨hi5, hown5⟩
        clear hi5 hown5 hgr hin hon hS2
        go_roundw
        case rel => exact ⟨k + 1, a2, cap2, xs ++ [(u1, u2, u3, u4)], by omega, by go_num, by simp, hnx, hS5⟩
        case measure => (simp [intOf] <;> omega)
      · rw [if_neg hz] at hnx
        have hq : ((u3 : Int) == z) = false := by simp [hz]
        clear hz
        go_wp2
        go_roundw
        case rel => exact ⟨k + 1, ao, co, xs, by omega, by go_num, rfl, hnx, hS2⟩
        case measure => (simp [intOf] <;> omega)
    · obtain rfl : n = k := by omega
      have ex : l.take n = l := by rw [← hn.out, List.take_length]
      rw [ex] at hxs
      go_wp2
      go_ret
      obtain ⟨φ', hle, hi, hs, _⟩ := hS.out.own.release hS.out.inv
      exact ⟨ao, co, φ', by rw [hxs.out]; rfl, hi, by rw [hxs.out]; exact hs⟩
end Go.Proofs.YtnlhalnjbkpdnaaGreatDoor

namespace Go.Proofs.YtnlhalnjbkpdnaaGreatDoor
open Go.RowKit Go.Sort
set_option linter.unusedVariables false
set_option linter.unusedSimpArgs false
set_option maxRecDepth 100000 in
set_option maxHeartbeats 2000000 in
theorem RsizesOf_any {w : World} {a : Option Addr} {c n : Nat} {l : List Unt} {φ : Phi} (hφ : Fz φ w) (s : SlV φ a c l) (hn : Hid (l.length = n)) (hl : n ≤ 5000) (hok : Hid (∀ u ∈ l, 1 ≤ u.2.2.2 ∧ u.2.2.2 ≤ 1000000)) :
    Calls Tryz.prog 98 #[.slice a n c] w (SlP (csL l) φ w) := by
  have HF := Lib.hid hφ
  have HS := Lib.hid s
  obtain ⟨ns, hns⟩ : ∃ ns, Hid (cnsL l = ns) := ⟨_, Lib.hid rfl⟩
  obtain ⟨m, hml⟩ : ∃ m, Hid (ns.length = m) := ⟨_, Lib.hid rfl⟩
  have hm5 : m ≤ 5000 := by
    rw [← hml.out, ← hns.out]
    have h1 := nodLen (cnsL l) (l.map (fun u => u.2.2.1)) (by unfold cnsL; exact (risI_pw _).imp (fun {a b} h e => by omega)) (fun x hx => by unfold cnsL at hx; exact mem_risI.1 hx)
    rw [List.length_map, hn.out] at h1
    omega
  go_enter Tryz.func98, Tryz.ntmps98
  go_wp2_with (go_at_call 100; (with_reducible refine (Rclusters_any HF.out HS.out hn hl).mono ?_); rintro e w2 ⟨a2, c2, φ2, rfl, hi2, sN⟩; rw [hns.out] at sN ⊢; rw [hml.out]; have hI2 := Lib.hid hi2; clear hi2)
  have hS0 : Hid (OwSt w2 φ2 3 none 0 ([] : List Int) w2) := Lib.hid ⟨Inv.start hI2.out.fz, Own.nil _ _ _ _⟩
  have SL := Lib.hid (HS.out.mono hI2.out.le)
  go_loopw [3, 9] (fun o i wr => ∃ (k : Nat) (ao : Option Addr) (co : Nat) (xs : List Int), k ≤ m ∧ i = .int .i64 k ∧ o = .slice ao xs.length co ∧ Hid ((ns.take k).map (fun c => szU (clU l c)) = xs) ∧ Hid (OwSt w2 φ2 3 ao co xs wr)) (fun _ i _ => m - (intOf i).toNat)
  case atStart => exact ⟨0, none, 0, [], Nat.zero_le _, rfl, rfl, Lib.hid rfl, hS0⟩
  case round =>
    clear hS0
    obtain ⟨k, ao, co, xs, hk, rfl, rfl, hxs, hS⟩ := hrel
    have hxl : xs.length ≤ 5000 := by rw [← hxs.out, List.length_map, List.length_take]; omega
    by_cases hlt : k < m
    · obtain ⟨b, off, rfl, f⟩ := sN.intsD hml hlt
      obtain ⟨hb, c1⟩ := f k hlt wr hS.out.inv.fz
      have htk := Lib.hid (take_snocD 0 ns k m hml.out hlt)
      clear f
      generalize ns.getD k 0 = z at *
      have hnx : Hid ((ns.take (k + 1)).map (fun c => szU (clU l c)) = xs ++ [szU (clU l z)]) := Lib.hid (by rw [htk.out, List.map_append, hxs.out]; rfl)
      obtain ⟨us, hus⟩ : ∃ us, Hid (clU l z = us) := ⟨_, Lib.hid rfl⟩
      obtain ⟨nu, hnu⟩ : ∃ nu, Hid (us.length = nu) := ⟨_, Lib.hid rfl⟩
      have hul : nu ≤ 5000 := by rw [← hnu.out, ← hus.out]; exact Nat.le_trans (clU_len l z) (by rw [hn.out]; exact hl)
      obtain ⟨zs, hzs⟩ : ∃ zs, Hid (us.map (fun u => u.2.2.2) = zs) := ⟨_, Lib.hid rfl⟩
      have hzl : Hid (zs.length = nu) := Lib.hid (by rw [← hzs.out, List.length_map, hnu.out])
      have hzb := Lib.hid (sum_pres hzl.out hul (fun x hx => by
        rw [← hzs.out] at hx
        obtain ⟨u, hu, rfl⟩ := List.mem_map.1 hx
        rw [← hus.out] at hu
        exact hok.out u (clU_mem hu)))
      obtain ⟨sz, hsz⟩ : ∃ sz, Hid (zs.sum = sz) := ⟨_, Lib.hid rfl⟩
      have hst : Hid (szU (clU l z) = sz) := Lib.hid (by unfold szU; rw [hus.out, hzs.out, hsz.out])
      rw [hst.out] at hnx
      have hSl := Lib.hid (fun φ W (hf : Fz φ W) (hl2 : φ2.le φ) => Rcluster_any hf (SL.out.mono hl2) hn hl z)
      have LE2 := Lib.hid φ2.le_refl
      go_upto_region 5 with (fail)
      clear c1 hb
      go_wp2_with (first
        | (go_at_call 93; (with_reducible refine (hSl.out _ _ hS.out.inv.fz LE2.out).mono ?_); rintro e w3 ⟨a3, c3, φ3, rfl, hi3, s3⟩; rw [hus.out] at s3 ⊢; rw [hnu.out]; have I3 := Lib.hid hi3; have S3 := Lib.hid s3; have hS3 := Lib.hid (hS.out.callB hi3.bel); clear hi3 s3)
        | (go_at_call 91; (with_reducible refine (Rsizes_any I3.out.fz S3.out hnu hul).mono ?_); rintro e w5 ⟨a5, c5, φ5, rfl, hi5, s5⟩; rw [hzs.out] at s5 ⊢; rw [hzl.out]; have I5 := Lib.hid hi5; have S5 := Lib.hid s5; have hS5 := Lib.hid (hS3.out.callB hi5.bel); clear hi5 s5)
        | (go_at_call 90; (with_reducible refine (Rtotal_any I5.out.fz S5.out hzl hul hzb).mono ?_); rintro e w6 ⟨rfl, rfl⟩; rw [hsz.out]; have hin := hS5.out.inv; have hon := hS5.out.own)
        | (at_builtin; refine wpList_app1 (α := Int) rfl _ _ 48 rfl slI hin ao co _ hon _ _ sz rfl rfl 1 rfl (by omega) ?_; intro a7 c7 w7 hi7 ho7 hg7)
        | fail)
      have hS7 : Hid (OwSt w2 φ2 3 a7 c7 (xs ++ [sz]) w7) := Lib.hid ⟨hi7, ho7⟩
      clear hi7 ho7 hg7 hin hon
      go_roundw
      case rel => exact ⟨k + 1, a7, c7, xs ++ [sz], by omega, by go_num, by simp, hnx, hS7⟩
      case measure => (simp [intOf] <;> omega)
    · obtain rfl : m = k := by omega
      have ex : ns.take m = ns := by rw [← hml.out, List.take_length]
      rw [ex] at hxs
      go_wp2
      go_ret
      obtain ⟨φ', hle, hi, hsl, _⟩ := hS.out.own.release hS.out.inv
      exact ⟨ao, co, φ', by unfold csL; rw [hns.out, hxs.out]; rfl, hI2.out.call hi, by unfold csL; rw [hns.out, hxs.out]; exact hsl⟩
end Go.Proofs.YtnlhalnjbkpdnaaGreatDoor

namespace Go.Proofs.YtnlhalnjbkpdnaaGreatDoor
open Go.RowKit Go.Sort
set_option linter.unusedVariables false
set_option linter.unusedSimpArgs false
set_option maxRecDepth 100000 in
set_option maxHeartbeats 2000000 in
theorem PclusterSizes_any {w : World} {nm : ByteArray} {a aC : Option Addr} {n c nC cC : Nat} {S : Int} {cl : List Clu} {φ : Phi} (hφ : Fz φ w) (s : SlV φ aC cC cl) (hn : Hid (cl.length = nC)) (hl : nC ≤ 5000) :
    Calls Tryz.prog 107 #[.agg #[.string nm, .slice a n c, .int .i64 S, .slice aC nC cC]] w (SlP (cl.map (fun x => x.2.1)) φ w) := by
  have hS0 : Hid (OwSt w φ 3 none 0 ([] : List Int) (w.alloc (.cells #[.string nm, .slice a n c, .int .i64 S, .slice aC nC cC] 137))) := Lib.hid ⟨(Inv.start hφ).alloc _, Own.nil _ _ _ _⟩
  go_enter Tryz.func107, Tryz.ntmps107
  go_wp2
  generalize w.alloc (.cells #[.string nm, .slice a n c, .int .i64 S, .slice aC nC cC] 137) = w1 at *
  go_loopw [3, 9] (fun o i wr => ∃ (k : Nat) (ao : Option Addr) (co : Nat) (xs : List Int), k ≤ nC ∧ i = .int .i64 k ∧ o = .slice ao xs.length co ∧ Hid ((cl.take k).map (fun x => x.2.1) = xs) ∧ Hid (OwSt w φ 3 ao co xs wr)) (fun _ i _ => nC - (intOf i).toNat)
  case atStart => exact ⟨0, none, 0, [], Nat.zero_le _, rfl, rfl, Lib.hid rfl, hS0⟩
  case round =>
    clear hS0
    obtain ⟨k, ao, co, xs, hk, rfl, rfl, hxs, hS⟩ := hrel
    have hxl : xs.length ≤ 5000 := by rw [← hxs.out, List.length_map, List.length_take]; omega
    by_cases hlt : k < nC
    · obtain ⟨b, off, rfl, f⟩ := s.cluD hn hlt
      obtain ⟨a1, c1', sU, f⟩ := f k hlt
      obtain ⟨hb, d1, d2, d3⟩ := f wr hS.out.inv.fz
      have htk := Lib.hid (take_snocD clu0 cl k nC hn.out hlt)
      clear f sU
      generalize hU : cl.getD k clu0 = U at *
      obtain ⟨x1, x2, us⟩ := U
      dsimp only at d1 d2 d3
      have hnx : Hid ((cl.take (k + 1)).map (fun x => x.2.1) = xs ++ [x2]) := Lib.hid (by rw [htk.out, List.map_append, hxs.out]; rfl)
      have hS2 := Lib.hid (OwSt.alloc hS.out (.cells #[.int .i64 x1, .int .i64 x2, .slice a1 us.length c1'] 141))
      have hK := Lib.hid (Blk.new wr #[.int .i64 x1, .int .i64 x2, .slice a1 us.length c1'] 141)
      clear hU htk hS
      go_upto_region 5 with (fail)
      clear d1 d2 d3 hb
      generalize wr.alloc (.cells #[.int .i64 x1, .int .i64 x2, .slice a1 us.length c1'] 141) = wj at *
      generalize wr.heap.size = bj at *
      have y1 : wj.cell? ⟨bj, 1, none⟩ = some (.int .i64 x2) := hK.out.cell 1
      have hin := hS2.out.inv
      have hon := hS2.out.own
      go_wp2_with (at_builtin; refine wpList_app1 (α := Int) rfl _ _ 48 rfl slI hin ao co _ hon _ _ x2 rfl rfl 1 rfl (by omega) ?_; intro a7 c7 w7 hi7 ho7 hg7)
      have hS7 : Hid (OwSt w φ 3 a7 c7 (xs ++ [x2]) w7) := Lib.hid ⟨hi7, ho7⟩
      clear hi7 ho7 hg7 hin hon
      go_roundw
      case rel => exact ⟨k + 1, a7, c7, xs ++ [x2], by omega, by go_num, by simp, hnx, hS7⟩
      case measure => (simp [intOf] <;> omega)
    · obtain rfl : nC = k := by omega
      have ex : cl.take nC = cl := by rw [← hn.out, List.take_length]
      rw [ex] at hxs
      go_wp2
      go_ret
      obtain ⟨φ', hle, hi, hsl, _⟩ := hS.out.own.release hS.out.inv
      exact ⟨ao, co, φ', by rw [hxs.out]; rfl, hi, by rw [hxs.out]; exact hsl⟩
theorem csL_map (l : List Unt) : ((cnsL l).map (cluF l)).map (fun x => x.2.1) = csL l := by
  unfold csL
  rw [List.map_map]
  rfl
end Go.Proofs.YtnlhalnjbkpdnaaGreatDoor

namespace Go.Proofs.YtnlhalnjbkpdnaaGreatDoor
open Go.RowKit
set_option linter.unusedVariables false
set_option linter.unusedSimpArgs false
theorem Max_any {w : World} {a : Option Addr} {c n : Nat} {xs : List Int} {φ : Phi} (hφ : Fz φ w) (s : SlV φ a c xs) (hn : Hid (xs.length = n)) (h0 : 0 < n) (hl : n ≤ 5000) :
    Calls Tryz.prog 99 #[.slice a n c] w (fun e w' => e = .returned (.int .i64 (mxL xs)) ∧ w = w') := by
  obtain ⟨b, off, rfl, f⟩ := s.intsD hn h0
  have hx : xs.take n = xs := by rw [← hn.out, List.take_length]
  have h := Tryz.slices_Max_int b off n c xs w h0 (by rw [hn.out]; exact Nat.le_refl _) (by omega) (fun j hj => (f j (by rw [← hn.out]; exact hj) w hφ).2)
  rw [hx] at h
  exact h.mono (fun e w' q => ⟨q.1, q.2.symm⟩)
theorem foldl_max {xs : List Int} {B : Int} (h : ∀ x ∈ xs, 0 ≤ x ∧ x ≤ B) : ∀ m, 0 ≤ m → m ≤ B → 0 ≤ xs.foldl max m ∧ xs.foldl max m ≤ B := by
  induction xs with
  | nil => intro m h1 h2; exact ⟨h1, h2⟩
  | cons x xs ih =>
    intro m h1 h2
    have hx := h x (by simp)
    rw [List.foldl_cons]
    exact ih (fun y hy => h y (by simp [hy])) (max m x) (by omega) (by omega)
theorem mxL_bd {xs : List Int} {B : Int} (hB : 0 ≤ B) (h : ∀ x ∈ xs, 0 ≤ x ∧ x ≤ B) : 0 ≤ mxL xs ∧ mxL xs ≤ B := by
  unfold mxL Lib.maxOf
  cases xs with
  | nil => exact ⟨Int.le_refl _, hB⟩
  | cons x xs =>
    have hx := h x (by simp)
    exact foldl_max h x hx.1 hx.2
end Go.Proofs.YtnlhalnjbkpdnaaGreatDoor
