/- The walk of checkTake, the reference's side. Conditions: the units' numbers are in their ranges. The walk of CheckDesign, the reference's side. Conditions: the library's table of blanks reads as it was laid; texts of a length that a form reaches. The walk of fits, the program's side. Conditions: the units' numbers are in their ranges. The walks of slices.EqualFunc with planOf's closure, of planOf and CheckDesign, the program's side. Conditions: texts of a length that a form reaches. The walks of planOf and CheckDesign, the program's side. Conditions: texts of a length that a form reaches. Conditions: none beyond what the claim form gives. -/
import Derived.Test.YtnlhalnjbkpdnaaGreatDoorZF
import Derived.Test.YtnlhalnjbkpdnaaGreatDoorAB
import Derived.Test.YtnlhalnjbkpdnaaGreatDoorZ12
import Derived.Deep.RegionHeld3
import Derived.Test.YtnlhalnjbkpdnaaGreatDoorZ13
namespace Go.Proofs.YtnlhalnjbkpdnaaGreatDoor
open Go.RowKit Go.Sort
set_option linter.unusedVariables false
set_option linter.unusedSimpArgs false
theorem takF_n {kind : Int} {s : ByteArray} {t1 : Int} {l : List Unt} (h : kind ≠ 3) : takF kind (s, t1, 0) l = if t1 < 0 ∨ ((elmL kind l).length : Int) < t1 then 1 else if kind = 1 then 0 else if szU l < t1 * mxL (elmL kind l) then 1 else 0 := by
  unfold takF
  rw [if_neg (by simp)]
  simp only [show ¬ (kind = 3 ∧ ((0 : Int) < 1 ∨ fewL l < 0)) from fun q => h q.1, if_false]
theorem takF_x {kind : Int} {s : ByteArray} {t1 t2 : Int} {l : List Unt} (h : kind ≠ 3) (h2 : t2 ≠ 0) : takF kind (s, t1, t2) l = 3 := by
  unfold takF
  rw [if_pos ⟨h, h2⟩]
theorem takF_s {s : ByteArray} {t1 t2 : Int} {l : List Unt} : takF 3 (s, t1, t2) l = if t1 < 0 ∨ ((csL l).length : Int) < t1 then 1 else if szU l < t1 * mxL (csL l) then 1 else if t2 < 1 ∨ fewL l < t2 then 1 else 0 := by
  unfold takF elmL
  rw [if_neg (by simp)]
  simp
theorem pre_all {xs : List Int} {S : Int} (h : ∀ x ∈ xs, 0 ≤ x) (hs : xs.sum ≤ S) (k : Nat) : 0 ≤ (xs.take k).sum ∧ (xs.take k).sum ≤ S := by
  have nn : ∀ ys : List Int, (∀ y ∈ ys, 0 ≤ y) → 0 ≤ ys.sum := fun ys => by
    induction ys with
    | nil => exact fun _ => Int.le_refl _
    | cons y ys ih => intro q; rw [List.sum_cons]; have := q y (by simp); have := ih (fun z hz => q z (by simp [hz])); omega
  have h1 := nn (xs.take k) (fun x hx => h x (List.mem_of_mem_take hx))
  have h2 := nn (xs.drop k) (fun x hx => h x (List.mem_of_mem_drop hx))
  have h3 : xs.sum = (xs.take k).sum + (xs.drop k).sum := by rw [← List.sum_append, List.take_append_drop]
  omega
theorem cns_len (l : List Unt) : (cnsL l).length ≤ l.length := by
  have h1 := nodLen (cnsL l) (l.map (fun u => u.2.2.1)) (by unfold cnsL; exact (risI_pw _).imp (fun {a b} h e => by omega)) (fun x hx => by unfold cnsL at hx; exact mem_risI.1 hx)
  rw [List.length_map] at h1
  exact h1
theorem elm_facts {kind : Int} {l : List Unt} {n : Nat} (hn : l.length = n) (hl : n ≤ 5000) (hok : ∀ u ∈ l, 1 ≤ u.2.2.2 ∧ u.2.2.2 ≤ 1000000) :
    (elmL kind l).length ≤ n ∧ (∀ x ∈ elmL kind l, 0 ≤ x ∧ x ≤ 5000000000) ∧ (∀ k, k ≤ (elmL kind l).length → 0 ≤ ((elmL kind l).take k).sum ∧ ((elmL kind l).take k).sum ≤ 5000000000) := by
  have hb : ∀ x ∈ elmL kind l, 0 ≤ x ∧ x ≤ 5000000000 := by
    intro x hx
    unfold elmL at hx
    split at hx
    · unfold csL at hx
      obtain ⟨c, hc, rfl⟩ := List.mem_map.1 hx
      have h1 := szU_bd (l := clU l c) (fun u hu => hok u (clU_mem hu))
      have h2 := clU_len l c
      omega
    · unfold szL at hx
      obtain ⟨u, hu, rfl⟩ := List.mem_map.1 hx
      have := hok u hu
      omega
  refine ⟨?_, hb, fun k _ => pre_all (fun x hx => (hb x hx).1) ?_ k⟩
  · unfold elmL csL szL
    split
    · rw [List.length_map]; have := cns_len l; omega
    · rw [List.length_map]; omega
  · rw [elm_sum]
    have := szU_bd hok
    omega
theorem elm_pos {kind : Int} {l : List Unt} (h0 : l ≠ []) : 0 < (elmL kind l).length := by
  unfold elmL csL szL
  split
  · rw [List.length_map]
    obtain ⟨u, hu⟩ := List.exists_mem_of_ne_nil _ h0
    exact List.length_pos_of_mem (mem_cnsL.2 ⟨u, hu, rfl⟩)
  · rw [List.length_map]; exact List.length_pos_iff.2 h0
/-- What checkTake needs of the sizes that it looks at. -/
structure ElS (xs : List Int) (k : Nat) (mx sm : Int) : Prop where
  len : xs.length = k
  pos : 0 < k
  hi : k ≤ 5000
  em : mxL xs = mx
  es : xs.sum = sm
  mb : 0 ≤ mx ∧ mx ≤ 5000000000
  pre : ∀ j, j ≤ k → 0 ≤ (xs.take j).sum ∧ (xs.take j).sum ≤ 5000000000
theorem els_of {kind : Int} {l : List Unt} {n : Nat} (hn : l.length = n) (h0 : 0 < n) (hl : n ≤ 5000) (hok : ∀ u ∈ l, 1 ≤ u.2.2.2 ∧ u.2.2.2 ≤ 1000000) : ElS (elmL kind l) (elmL kind l).length (mxL (elmL kind l)) (szU l) := by
  obtain ⟨h1, h2, h3⟩ := elm_facts (kind := kind) hn hl hok
  exact ⟨rfl, elm_pos (by intro e; subst e; simp at hn; omega), by omega, rfl, elm_sum kind l, mxL_bd (by decide) h2, h3⟩
theorem Fz.drewN {φ : Phi} {w : World} (h : Fz φ w) (n : Nat) : Fz φ (w.drewN n) := h
theorem mul_bd {xs : List Int} {k : Nat} {mx sm t : Int} (h : Hid (ElS xs k mx sm)) (h0 : 0 ≤ t) (h1 : t ≤ k) : 0 ≤ t * mx ∧ t * mx ≤ 25000000000000 := by
  have h2 := h.out.mb
  have h3 := h.out.hi
  refine ⟨Int.mul_nonneg h0 h2.1, ?_⟩
  exact Int.le_trans (Int.mul_le_mul (show t ≤ 5000 by omega) h2.2 h2.1 (by decide)) (by decide)
theorem max_q {W : World} {a : Option Addr} {c k : Nat} {xs : List Int} {φ : Phi} {mx sm : Int} (hf : Fz φ W) (s : SlV φ a c xs) (h : Hid (ElS xs k mx sm)) :
    Calls Tryz.prog 99 #[.slice a k c] W (fun e w' => e = .returned (.int .i64 mx) ∧ w' = W) :=
  (Max_any hf s (Lib.hid h.out.len) h.out.pos h.out.hi).mono fun e w' q => ⟨by rw [q.1, h.out.em], q.2.symm⟩
theorem total_q {W : World} {a : Option Addr} {c k : Nat} {xs : List Int} {φ : Phi} {mx sm : Int} (hf : Fz φ W) (s : SlV φ a c xs) (h : Hid (ElS xs k mx sm)) :
    Calls Tryz.prog 90 #[.slice a k c] W (fun e w' => e = .returned (.int .i64 sm) ∧ w' = W) :=
  (Rtotal_any hf s (Lib.hid h.out.len) h.out.hi (Lib.hid h.out.pre)).mono fun e w' q => ⟨by rw [q.1, h.out.es], q.2.symm⟩
set_option maxRecDepth 100000 in
set_option maxHeartbeats 4000000 in
theorem RcheckTake_any {w : World} {kind : Int} (hk : kind = 1 ∨ kind = 2 ∨ kind = 3) {s : ByteArray} {t1 t2 : Int} {a : Option Addr} {c n : Nat} {l : List Unt} {φ : Phi} (hφ : Fz φ w) (sl : SlV φ a c l) (hn : Hid (l.length = n)) (h0 : 0 < n) (hl : n ≤ 5000) (hok : Hid (∀ u ∈ l, 1 ≤ u.2.2.2 ∧ u.2.2.2 ≤ 1000000)) {q : Int} (hq : Hid (takF kind (s, t1, t2) l = q)) :
    Calls Tryz.prog 38 #[.int .i64 kind, .agg #[.string s, .int .i64 t1, .int .i64 t2], .slice a n c] w (fun e w' => e = .returned (.int .i64 q) ∧ Below w.heap.size w w') := by
  have hR0 := Lib.hid (RsSt.start (Inv.start hφ) #[.string s, .int .i64 t1, .int .i64 t2] 73)
  have HS := Lib.hid sl
  have hE := Lib.hid (els_of (kind := kind) hn.out h0 hl hok.out)
  obtain ⟨xs, hxs⟩ : ∃ xs, Hid (elmL kind l = xs) := ⟨_, Lib.hid rfl⟩
  obtain ⟨k, hk5⟩ : ∃ k, Hid ((elmL kind l).length = k) := ⟨_, Lib.hid rfl⟩
  obtain ⟨mx, hmx⟩ : ∃ m, Hid (mxL (elmL kind l) = m) := ⟨_, Lib.hid rfl⟩
  obtain ⟨sm, hsm⟩ : ∃ m, Hid (szU l = m) := ⟨_, Lib.hid rfl⟩
  rw [hk5.out, hmx.out, hsm.out, hxs.out] at hE
  clear hφ sl
  rcases hk with rfl | rfl | rfl
  · by_cases h2 : t2 = 0
    case neg =>
      have g2 : ((t2 : Int) != 0) = true := by simp [h2]
      have hq3 : Hid (3 = q) := Lib.hid (by rw [← hq.out]; exact (takF_x (by decide) h2).symm)
      clear h2
      go_enter Tryz.func38, Tryz.ntmps38
      go_upto_region 1 with (fail)
      generalize w.alloc (.cells #[.string s, .int .i64 t1, .int .i64 t2] 73) = w1 at *
      have y0 : w1.cell? ⟨w.heap.size, 0, none⟩ = some (.string s) := hR0.out.k.cell 0
      have y1 : w1.cell? ⟨w.heap.size, 1, none⟩ = some (.int .i64 t1) := hR0.out.k.cell 1
      have y2 : w1.cell? ⟨w.heap.size, 2, none⟩ = some (.int .i64 t2) := hR0.out.k.cell 2
      go_wp2
      go_ret
      exact ⟨ret_int hq3.out, hR0.out.inv.bel⟩
    subst h2
    have hq2 := Lib.hid ((takF_n (kind := 1) (s := s) (t1 := t1) (l := l) (by decide)).symm.trans hq.out)
    rw [hk5.out, hmx.out, hsm.out] at hq2
    have hxs : Hid (l.map (fun u => u.2.2.2) = xs) := hxs
    by_cases d1 : t1 < 0
    · have hq3 : Hid (1 = q) := Lib.hid (by rw [← hq2.out, if_pos (.inl d1)])
      go_enter Tryz.func38, Tryz.ntmps38
      go_upto_region 1 with (fail)
      generalize w.alloc (.cells #[.string s, .int .i64 t1, .int .i64 0] 73) = w1 at *
      have y0 : w1.cell? ⟨w.heap.size, 0, none⟩ = some (.string s) := hR0.out.k.cell 0
      have y1 : w1.cell? ⟨w.heap.size, 1, none⟩ = some (.int .i64 t1) := hR0.out.k.cell 1
      have y2 : w1.cell? ⟨w.heap.size, 2, none⟩ = some (.int .i64 0) := hR0.out.k.cell 2
      go_wp2_with (go_at_call 91; (with_reducible refine (Rsizes_any hR0.out.inv.fz HS.out hn hl).mono ?_); rintro e w5 ⟨a5, c5, φ5, rfl, hi5, s5⟩; rw [hxs.out] at s5 ⊢; rw [hE.out.len]; have hR5 := Lib.hid (hR0.out.call hi5); have S5 := Lib.hid s5; have HS5 := Lib.hid (HS.out.mono hi5.le); clear hi5 s5; have y0 : w5.cell? ⟨w.heap.size, 0, none⟩ = some (.string s) := hR5.out.k.cell 0; have y1 : w5.cell? ⟨w.heap.size, 1, none⟩ = some (.int .i64 t1) := hR5.out.k.cell 1; have y2 : w5.cell? ⟨w.heap.size, 2, none⟩ = some (.int .i64 0) := hR5.out.k.cell 2)
      go_ret
      exact ⟨ret_int hq3.out, hR5.out.inv.bel⟩
    have g1 : decide (t1 < 0) = false := decide_eq_false d1
    by_cases d2 : (k : Int) < t1
    · have hq3 : Hid (1 = q) := Lib.hid (by rw [← hq2.out, if_pos (.inr d2)])
      have g2 : decide (t1 > (k : Int)) = true := decide_eq_true d2
      go_enter Tryz.func38, Tryz.ntmps38
      go_upto_region 1 with (fail)
      generalize w.alloc (.cells #[.string s, .int .i64 t1, .int .i64 0] 73) = w1 at *
      have y0 : w1.cell? ⟨w.heap.size, 0, none⟩ = some (.string s) := hR0.out.k.cell 0
      have y1 : w1.cell? ⟨w.heap.size, 1, none⟩ = some (.int .i64 t1) := hR0.out.k.cell 1
      have y2 : w1.cell? ⟨w.heap.size, 2, none⟩ = some (.int .i64 0) := hR0.out.k.cell 2
      go_wp2_with (go_at_call 91; (with_reducible refine (Rsizes_any hR0.out.inv.fz HS.out hn hl).mono ?_); rintro e w5 ⟨a5, c5, φ5, rfl, hi5, s5⟩; rw [hxs.out] at s5 ⊢; rw [hE.out.len]; have hR5 := Lib.hid (hR0.out.call hi5); have S5 := Lib.hid s5; have HS5 := Lib.hid (HS.out.mono hi5.le); clear hi5 s5; have y0 : w5.cell? ⟨w.heap.size, 0, none⟩ = some (.string s) := hR5.out.k.cell 0; have y1 : w5.cell? ⟨w.heap.size, 1, none⟩ = some (.int .i64 t1) := hR5.out.k.cell 1; have y2 : w5.cell? ⟨w.heap.size, 2, none⟩ = some (.int .i64 0) := hR5.out.k.cell 2)
      go_ret
      exact ⟨ret_int hq3.out, hR5.out.inv.bel⟩
    have g2 : decide (t1 > (k : Int)) = false := decide_eq_false d2
    have hq3 : Hid (0 = q) := Lib.hid (by rw [← hq2.out, if_neg (by omega)]; rfl)
    go_enter Tryz.func38, Tryz.ntmps38
    go_upto_region 1 with (fail)
    generalize w.alloc (.cells #[.string s, .int .i64 t1, .int .i64 0] 73) = w1 at *
    have y0 : w1.cell? ⟨w.heap.size, 0, none⟩ = some (.string s) := hR0.out.k.cell 0
    have y1 : w1.cell? ⟨w.heap.size, 1, none⟩ = some (.int .i64 t1) := hR0.out.k.cell 1
    have y2 : w1.cell? ⟨w.heap.size, 2, none⟩ = some (.int .i64 0) := hR0.out.k.cell 2
    go_wp2_with (go_at_call 91; (with_reducible refine (Rsizes_any hR0.out.inv.fz HS.out hn hl).mono ?_); rintro e w5 ⟨a5, c5, φ5, rfl, hi5, s5⟩; rw [hxs.out] at s5 ⊢; rw [hE.out.len]; have hR5 := Lib.hid (hR0.out.call hi5); have S5 := Lib.hid s5; have HS5 := Lib.hid (HS.out.mono hi5.le); clear hi5 s5; have y0 : w5.cell? ⟨w.heap.size, 0, none⟩ = some (.string s) := hR5.out.k.cell 0; have y1 : w5.cell? ⟨w.heap.size, 1, none⟩ = some (.int .i64 t1) := hR5.out.k.cell 1; have y2 : w5.cell? ⟨w.heap.size, 2, none⟩ = some (.int .i64 0) := hR5.out.k.cell 2)
    go_ret
    exact ⟨ret_int hq3.out, hR5.out.inv.bel⟩
  · by_cases h2 : t2 = 0
    case neg =>
      have g2 : ((t2 : Int) != 0) = true := by simp [h2]
      have hq3 : Hid (3 = q) := Lib.hid (by rw [← hq.out]; exact (takF_x (by decide) h2).symm)
      clear h2
      go_enter Tryz.func38, Tryz.ntmps38
      go_upto_region 1 with (fail)
      generalize w.alloc (.cells #[.string s, .int .i64 t1, .int .i64 t2] 73) = w1 at *
      have y0 : w1.cell? ⟨w.heap.size, 0, none⟩ = some (.string s) := hR0.out.k.cell 0
      have y1 : w1.cell? ⟨w.heap.size, 1, none⟩ = some (.int .i64 t1) := hR0.out.k.cell 1
      have y2 : w1.cell? ⟨w.heap.size, 2, none⟩ = some (.int .i64 t2) := hR0.out.k.cell 2
      go_wp2
      go_ret
      exact ⟨ret_int hq3.out, hR0.out.inv.bel⟩
    subst h2
    have hq2 := Lib.hid ((takF_n (kind := 2) (s := s) (t1 := t1) (l := l) (by decide)).symm.trans hq.out)
    rw [hk5.out, hmx.out, hsm.out] at hq2
    have hxs : Hid (l.map (fun u => u.2.2.2) = xs) := hxs
    by_cases d1 : t1 < 0
    · have hq3 : Hid (1 = q) := Lib.hid (by rw [← hq2.out, if_pos (.inl d1)])
      go_enter Tryz.func38, Tryz.ntmps38
      go_upto_region 1 with (fail)
      generalize w.alloc (.cells #[.string s, .int .i64 t1, .int .i64 0] 73) = w1 at *
      have y0 : w1.cell? ⟨w.heap.size, 0, none⟩ = some (.string s) := hR0.out.k.cell 0
      have y1 : w1.cell? ⟨w.heap.size, 1, none⟩ = some (.int .i64 t1) := hR0.out.k.cell 1
      have y2 : w1.cell? ⟨w.heap.size, 2, none⟩ = some (.int .i64 0) := hR0.out.k.cell 2
      go_wp2_with (go_at_call 91; (with_reducible refine (Rsizes_any hR0.out.inv.fz HS.out hn hl).mono ?_); rintro e w5 ⟨a5, c5, φ5, rfl, hi5, s5⟩; rw [hxs.out] at s5 ⊢; rw [hE.out.len]; have hR5 := Lib.hid (hR0.out.call hi5); have S5 := Lib.hid s5; have HS5 := Lib.hid (HS.out.mono hi5.le); clear hi5 s5; have y0 : w5.cell? ⟨w.heap.size, 0, none⟩ = some (.string s) := hR5.out.k.cell 0; have y1 : w5.cell? ⟨w.heap.size, 1, none⟩ = some (.int .i64 t1) := hR5.out.k.cell 1; have y2 : w5.cell? ⟨w.heap.size, 2, none⟩ = some (.int .i64 0) := hR5.out.k.cell 2)
      go_ret
      exact ⟨ret_int hq3.out, hR5.out.inv.bel⟩
    have g1 : decide (t1 < 0) = false := decide_eq_false d1
    by_cases d2 : (k : Int) < t1
    · have hq3 : Hid (1 = q) := Lib.hid (by rw [← hq2.out, if_pos (.inr d2)])
      have g2 : decide (t1 > (k : Int)) = true := decide_eq_true d2
      go_enter Tryz.func38, Tryz.ntmps38
      go_upto_region 1 with (fail)
      generalize w.alloc (.cells #[.string s, .int .i64 t1, .int .i64 0] 73) = w1 at *
      have y0 : w1.cell? ⟨w.heap.size, 0, none⟩ = some (.string s) := hR0.out.k.cell 0
      have y1 : w1.cell? ⟨w.heap.size, 1, none⟩ = some (.int .i64 t1) := hR0.out.k.cell 1
      have y2 : w1.cell? ⟨w.heap.size, 2, none⟩ = some (.int .i64 0) := hR0.out.k.cell 2
      go_wp2_with (go_at_call 91; (with_reducible refine (Rsizes_any hR0.out.inv.fz HS.out hn hl).mono ?_); rintro e w5 ⟨a5, c5, φ5, rfl, hi5, s5⟩; rw [hxs.out] at s5 ⊢; rw [hE.out.len]; have hR5 := Lib.hid (hR0.out.call hi5); have S5 := Lib.hid s5; have HS5 := Lib.hid (HS.out.mono hi5.le); clear hi5 s5; have y0 : w5.cell? ⟨w.heap.size, 0, none⟩ = some (.string s) := hR5.out.k.cell 0; have y1 : w5.cell? ⟨w.heap.size, 1, none⟩ = some (.int .i64 t1) := hR5.out.k.cell 1; have y2 : w5.cell? ⟨w.heap.size, 2, none⟩ = some (.int .i64 0) := hR5.out.k.cell 2)
      go_ret
      exact ⟨ret_int hq3.out, hR5.out.inv.bel⟩
    have g2 : decide (t1 > (k : Int)) = false := decide_eq_false d2
    have hmu := mul_bd hE (show 0 ≤ t1 by omega) (show t1 ≤ k by omega)
    have hw : IntKind.i64.wrap (t1 * mx) = t1 * mx := IntWalk.i64_in _ (by omega)
    by_cases d3 : sm < t1 * mx
    · have hq3 : Hid (1 = q) := Lib.hid (by rw [← hq2.out, if_neg (by omega), if_neg (by decide), if_pos d3])
      have g3 : decide (t1 * mx > sm) = true := decide_eq_true d3
      clear d1 d2 d3 hmu
      go_enter Tryz.func38, Tryz.ntmps38
      go_upto_region 1 with (fail)
      generalize w.alloc (.cells #[.string s, .int .i64 t1, .int .i64 0] 73) = w1 at *
      have y0 : w1.cell? ⟨w.heap.size, 0, none⟩ = some (.string s) := hR0.out.k.cell 0
      have y1 : w1.cell? ⟨w.heap.size, 1, none⟩ = some (.int .i64 t1) := hR0.out.k.cell 1
      have y2 : w1.cell? ⟨w.heap.size, 2, none⟩ = some (.int .i64 0) := hR0.out.k.cell 2
      go_upto_region 10 with (go_at_call 91; (with_reducible refine (Rsizes_any hR0.out.inv.fz HS.out hn hl).mono ?_); rintro e w5 ⟨a5, c5, φ5, rfl, hi5, s5⟩; rw [hxs.out] at s5 ⊢; rw [hE.out.len]; have hR5 := Lib.hid (hR0.out.call hi5); have S5 := Lib.hid s5; have HS5 := Lib.hid (HS.out.mono hi5.le); clear hi5 s5; have y0 : w5.cell? ⟨w.heap.size, 0, none⟩ = some (.string s) := hR5.out.k.cell 0; have y1 : w5.cell? ⟨w.heap.size, 1, none⟩ = some (.int .i64 t1) := hR5.out.k.cell 1; have y2 : w5.cell? ⟨w.heap.size, 2, none⟩ = some (.int .i64 0) := hR5.out.k.cell 2)
      go_quiet ((first
        | (go_at_call 99; exact Calls.quiet_of_same (max_q (Fz.drewN hR5.out.inv.fz _) S5.out hE))
        | (go_at_call 90; exact Calls.quiet_of_same (total_q (Fz.drewN hR5.out.inv.fz _) S5.out hE))
        | fail))
      go_wp2
      go_ret
      exact ⟨ret_int hq3.out, bdrewN hR5.out.inv.bel _⟩
    · have hq3 : Hid (0 = q) := Lib.hid (by rw [← hq2.out, if_neg (by omega), if_neg (by decide), if_neg d3])
      have g3 : decide (t1 * mx > sm) = false := decide_eq_false d3
      clear d1 d2 d3 hmu
      go_enter Tryz.func38, Tryz.ntmps38
      go_upto_region 1 with (fail)
      generalize w.alloc (.cells #[.string s, .int .i64 t1, .int .i64 0] 73) = w1 at *
      have y0 : w1.cell? ⟨w.heap.size, 0, none⟩ = some (.string s) := hR0.out.k.cell 0
      have y1 : w1.cell? ⟨w.heap.size, 1, none⟩ = some (.int .i64 t1) := hR0.out.k.cell 1
      have y2 : w1.cell? ⟨w.heap.size, 2, none⟩ = some (.int .i64 0) := hR0.out.k.cell 2
      go_upto_region 10 with (go_at_call 91; (with_reducible refine (Rsizes_any hR0.out.inv.fz HS.out hn hl).mono ?_); rintro e w5 ⟨a5, c5, φ5, rfl, hi5, s5⟩; rw [hxs.out] at s5 ⊢; rw [hE.out.len]; have hR5 := Lib.hid (hR0.out.call hi5); have S5 := Lib.hid s5; have HS5 := Lib.hid (HS.out.mono hi5.le); clear hi5 s5; have y0 : w5.cell? ⟨w.heap.size, 0, none⟩ = some (.string s) := hR5.out.k.cell 0; have y1 : w5.cell? ⟨w.heap.size, 1, none⟩ = some (.int .i64 t1) := hR5.out.k.cell 1; have y2 : w5.cell? ⟨w.heap.size, 2, none⟩ = some (.int .i64 0) := hR5.out.k.cell 2)
      go_quiet ((first
        | (go_at_call 99; exact Calls.quiet_of_same (max_q (Fz.drewN hR5.out.inv.fz _) S5.out hE))
        | (go_at_call 90; exact Calls.quiet_of_same (total_q (Fz.drewN hR5.out.inv.fz _) S5.out hE))
        | fail))
      go_wp2
      go_ret
      exact ⟨ret_int hq3.out, bdrewN hR5.out.inv.bel _⟩
  · have hq2 := Lib.hid (takF_s.symm.trans hq.out)
    have hxs : Hid (csL l = xs) := hxs
    have hk5 : Hid ((csL l).length = k) := hk5
    have hmx : Hid (mxL (csL l) = mx) := hmx
    rw [hk5.out, hmx.out, hsm.out] at hq2
    by_cases d1 : t1 < 0
    · have hq3 : Hid (1 = q) := Lib.hid (by rw [← hq2.out, if_pos (.inl d1)])
      go_enter Tryz.func38, Tryz.ntmps38
      go_upto_region 1 with (fail)
      generalize w.alloc (.cells #[.string s, .int .i64 t1, .int .i64 t2] 73) = w1 at *
      have y0 : w1.cell? ⟨w.heap.size, 0, none⟩ = some (.string s) := hR0.out.k.cell 0
      have y1 : w1.cell? ⟨w.heap.size, 1, none⟩ = some (.int .i64 t1) := hR0.out.k.cell 1
      have y2 : w1.cell? ⟨w.heap.size, 2, none⟩ = some (.int .i64 t2) := hR0.out.k.cell 2
      go_wp2_with (first
        | (go_at_call 91; (with_reducible refine (Rsizes_any hR0.out.inv.fz HS.out hn hl).mono ?_); rintro e w5 ⟨a5, c5, φ5, rfl, hi5, s5⟩; have hR5 := Lib.hid (hR0.out.call hi5); have HS5 := Lib.hid (HS.out.mono hi5.le); clear hi5 s5; have y0 : w5.cell? ⟨w.heap.size, 0, none⟩ = some (.string s) := hR5.out.k.cell 0; have y1 : w5.cell? ⟨w.heap.size, 1, none⟩ = some (.int .i64 t1) := hR5.out.k.cell 1; have y2 : w5.cell? ⟨w.heap.size, 2, none⟩ = some (.int .i64 t2) := hR5.out.k.cell 2)
        | (go_at_call 98; (with_reducible refine (RsizesOf_any hR5.out.inv.fz HS5.out hn hl hok).mono ?_); rintro e w6 ⟨a6, c6, φ6, rfl, hi6, s6⟩; rw [hxs.out] at s6 ⊢; rw [hE.out.len]; have hR6 := Lib.hid (hR5.out.call hi6); have S6 := Lib.hid s6; have HS6 := Lib.hid (HS5.out.mono hi6.le); clear hi6 s6 y0 y1 y2; have y0 : w6.cell? ⟨w.heap.size, 0, none⟩ = some (.string s) := hR6.out.k.cell 0; have y1 : w6.cell? ⟨w.heap.size, 1, none⟩ = some (.int .i64 t1) := hR6.out.k.cell 1; have y2 : w6.cell? ⟨w.heap.size, 2, none⟩ = some (.int .i64 t2) := hR6.out.k.cell 2)
        | fail)
      go_ret
      exact ⟨ret_int hq3.out, hR6.out.inv.bel⟩
    have g1 : decide (t1 < 0) = false := decide_eq_false d1
    by_cases d2 : (k : Int) < t1
    · have hq3 : Hid (1 = q) := Lib.hid (by rw [← hq2.out, if_pos (.inr d2)])
      have g2 : decide (t1 > (k : Int)) = true := decide_eq_true d2
      go_enter Tryz.func38, Tryz.ntmps38
      go_upto_region 1 with (fail)
      generalize w.alloc (.cells #[.string s, .int .i64 t1, .int .i64 t2] 73) = w1 at *
      have y0 : w1.cell? ⟨w.heap.size, 0, none⟩ = some (.string s) := hR0.out.k.cell 0
      have y1 : w1.cell? ⟨w.heap.size, 1, none⟩ = some (.int .i64 t1) := hR0.out.k.cell 1
      have y2 : w1.cell? ⟨w.heap.size, 2, none⟩ = some (.int .i64 t2) := hR0.out.k.cell 2
      go_wp2_with (first
        | (go_at_call 91; (with_reducible refine (Rsizes_any hR0.out.inv.fz HS.out hn hl).mono ?_); rintro e w5 ⟨a5, c5, φ5, rfl, hi5, s5⟩; have hR5 := Lib.hid (hR0.out.call hi5); have HS5 := Lib.hid (HS.out.mono hi5.le); clear hi5 s5; have y0 : w5.cell? ⟨w.heap.size, 0, none⟩ = some (.string s) := hR5.out.k.cell 0; have y1 : w5.cell? ⟨w.heap.size, 1, none⟩ = some (.int .i64 t1) := hR5.out.k.cell 1; have y2 : w5.cell? ⟨w.heap.size, 2, none⟩ = some (.int .i64 t2) := hR5.out.k.cell 2)
        | (go_at_call 98; (with_reducible refine (RsizesOf_any hR5.out.inv.fz HS5.out hn hl hok).mono ?_); rintro e w6 ⟨a6, c6, φ6, rfl, hi6, s6⟩; rw [hxs.out] at s6 ⊢; rw [hE.out.len]; have hR6 := Lib.hid (hR5.out.call hi6); have S6 := Lib.hid s6; have HS6 := Lib.hid (HS5.out.mono hi6.le); clear hi6 s6 y0 y1 y2; have y0 : w6.cell? ⟨w.heap.size, 0, none⟩ = some (.string s) := hR6.out.k.cell 0; have y1 : w6.cell? ⟨w.heap.size, 1, none⟩ = some (.int .i64 t1) := hR6.out.k.cell 1; have y2 : w6.cell? ⟨w.heap.size, 2, none⟩ = some (.int .i64 t2) := hR6.out.k.cell 2)
        | fail)
      go_ret
      exact ⟨ret_int hq3.out, hR6.out.inv.bel⟩
    have g2 : decide (t1 > (k : Int)) = false := decide_eq_false d2
    have hmu := mul_bd hE (show 0 ≤ t1 by omega) (show t1 ≤ k by omega)
    have hw : IntKind.i64.wrap (t1 * mx) = t1 * mx := IntWalk.i64_in _ (by omega)
    by_cases d3 : sm < t1 * mx
    · have hq3 : Hid (1 = q) := Lib.hid (by rw [← hq2.out, if_neg (by omega), if_pos d3])
      have g3 : decide (t1 * mx > sm) = true := decide_eq_true d3
      clear d1 d2 d3 hmu
      go_enter Tryz.func38, Tryz.ntmps38
      go_upto_region 1 with (fail)
      generalize w.alloc (.cells #[.string s, .int .i64 t1, .int .i64 t2] 73) = w1 at *
      have y0 : w1.cell? ⟨w.heap.size, 0, none⟩ = some (.string s) := hR0.out.k.cell 0
      have y1 : w1.cell? ⟨w.heap.size, 1, none⟩ = some (.int .i64 t1) := hR0.out.k.cell 1
      have y2 : w1.cell? ⟨w.heap.size, 2, none⟩ = some (.int .i64 t2) := hR0.out.k.cell 2
      go_upto_region 10 with (first
        | (go_at_call 91; (with_reducible refine (Rsizes_any hR0.out.inv.fz HS.out hn hl).mono ?_); rintro e w5 ⟨a5, c5, φ5, rfl, hi5, s5⟩; have hR5 := Lib.hid (hR0.out.call hi5); have HS5 := Lib.hid (HS.out.mono hi5.le); clear hi5 s5; have y0 : w5.cell? ⟨w.heap.size, 0, none⟩ = some (.string s) := hR5.out.k.cell 0; have y1 : w5.cell? ⟨w.heap.size, 1, none⟩ = some (.int .i64 t1) := hR5.out.k.cell 1; have y2 : w5.cell? ⟨w.heap.size, 2, none⟩ = some (.int .i64 t2) := hR5.out.k.cell 2)
        | (go_at_call 98; (with_reducible refine (RsizesOf_any hR5.out.inv.fz HS5.out hn hl hok).mono ?_); rintro e w6 ⟨a6, c6, φ6, rfl, hi6, s6⟩; rw [hxs.out] at s6 ⊢; rw [hE.out.len]; have hR6 := Lib.hid (hR5.out.call hi6); have S6 := Lib.hid s6; have HS6 := Lib.hid (HS5.out.mono hi6.le); clear hi6 s6 y0 y1 y2; have y0 : w6.cell? ⟨w.heap.size, 0, none⟩ = some (.string s) := hR6.out.k.cell 0; have y1 : w6.cell? ⟨w.heap.size, 1, none⟩ = some (.int .i64 t1) := hR6.out.k.cell 1; have y2 : w6.cell? ⟨w.heap.size, 2, none⟩ = some (.int .i64 t2) := hR6.out.k.cell 2)
        | fail)
      go_quiet ((first
        | (go_at_call 99; exact Calls.quiet_of_same (max_q (Fz.drewN hR6.out.inv.fz _) S6.out hE))
        | (go_at_call 90; exact Calls.quiet_of_same (total_q (Fz.drewN hR6.out.inv.fz _) S6.out hE))
        | fail))
      go_wp2
      go_ret
      exact ⟨ret_int hq3.out, bdrewN hR6.out.inv.bel _⟩
    have hq4 := Lib.hid hq2.out
    rw [if_neg (by omega), if_neg d3] at hq4
    have g3 : decide (t1 * mx > sm) = false := decide_eq_false d3
    obtain ⟨ns, hns⟩ : ∃ ns, Hid (cnsL l = ns) := ⟨_, Lib.hid rfl⟩
    obtain ⟨m, hml⟩ : ∃ m, Hid (ns.length = m) := ⟨_, Lib.hid rfl⟩
    have hlne : Hid (l ≠ []) := Lib.hid (by intro e; have := hn.out; rw [e] at this; simp at this; omega)
    have hm0 : 0 < m := by
      obtain ⟨u, hu⟩ := List.exists_mem_of_ne_nil _ hlne.out
      rw [← hml.out, ← hns.out]
      exact List.length_pos_of_mem (mem_cnsL.2 ⟨u, hu, rfl⟩)
    have hm5 : m ≤ 5000 := by rw [← hml.out, ← hns.out]; have := cns_len l; rw [hn.out] at this; omega
    clear d1 d2 d3 hmu hq2
    go_enter Tryz.func38, Tryz.ntmps38
    go_upto_region 1 with (fail)
    generalize w.alloc (.cells #[.string s, .int .i64 t1, .int .i64 t2] 73) = w1 at *
    have y0 : w1.cell? ⟨w.heap.size, 0, none⟩ = some (.string s) := hR0.out.k.cell 0
    have y1 : w1.cell? ⟨w.heap.size, 1, none⟩ = some (.int .i64 t1) := hR0.out.k.cell 1
    have y2 : w1.cell? ⟨w.heap.size, 2, none⟩ = some (.int .i64 t2) := hR0.out.k.cell 2
    go_upto_region 10 with (first
      | (go_at_call 91; (with_reducible refine (Rsizes_any hR0.out.inv.fz HS.out hn hl).mono ?_); rintro e w5 ⟨a5, c5, φ5, rfl, hi5, s5⟩; have hR5 := Lib.hid (hR0.out.call hi5); have HS5 := Lib.hid (HS.out.mono hi5.le); clear hi5 s5; have y0 : w5.cell? ⟨w.heap.size, 0, none⟩ = some (.string s) := hR5.out.k.cell 0; have y1 : w5.cell? ⟨w.heap.size, 1, none⟩ = some (.int .i64 t1) := hR5.out.k.cell 1; have y2 : w5.cell? ⟨w.heap.size, 2, none⟩ = some (.int .i64 t2) := hR5.out.k.cell 2)
      | (go_at_call 98; (with_reducible refine (RsizesOf_any hR5.out.inv.fz HS5.out hn hl hok).mono ?_); rintro e w6 ⟨a6, c6, φ6, rfl, hi6, s6⟩; rw [hxs.out] at s6 ⊢; rw [hE.out.len]; have hR6 := Lib.hid (hR5.out.call hi6); have S6 := Lib.hid s6; have HS6 := Lib.hid (HS5.out.mono hi6.le); clear hi6 s6 y0 y1 y2; have y0 : w6.cell? ⟨w.heap.size, 0, none⟩ = some (.string s) := hR6.out.k.cell 0; have y1 : w6.cell? ⟨w.heap.size, 1, none⟩ = some (.int .i64 t1) := hR6.out.k.cell 1; have y2 : w6.cell? ⟨w.heap.size, 2, none⟩ = some (.int .i64 t2) := hR6.out.k.cell 2)
      | fail)
    go_quiet ((first
      | (go_at_call 99; exact Calls.quiet_of_same (max_q (Fz.drewN hR6.out.inv.fz _) S6.out hE))
      | (go_at_call 90; exact Calls.quiet_of_same (total_q (Fz.drewN hR6.out.inv.fz _) S6.out hE))
      | fail))
    go_wp2_with (go_at_call 100; (with_reducible refine (Rclusters_any (Fz.drewN hR6.out.inv.fz _) HS6.out hn hl).mono ?_); rintro e w7 ⟨a7, c7, φ7, rfl, hi7, s7⟩; rw [hns.out] at s7 ⊢; rw [hml.out]; have hR7 := Lib.hid ((hR6.out.drewN _).call hi7); have S7 := Lib.hid s7; have HS7 := Lib.hid (HS6.out.mono hi7.le); clear hi7)
    clear y0 y1 y2
    go_loopw [48] (fun i wr => ∃ k : Nat, k ≤ m ∧ i = .int .i64 k ∧ Hid (∀ j, j < k → ¬ (t2 < 1 ∨ ((clU l (ns.getD j 0)).length : Int) < t2)) ∧ Hid (RsSt w φ φ7 w.heap.size #[.string s, .int .i64 t1, .int .i64 t2] 73 wr)) (fun i _ => m - (intOf i).toNat)
    case atStart => exact ⟨0, Nat.zero_le _, rfl, Lib.hid (fun j hj => by omega), hR7⟩
    case round =>
      clear hR7
      obtain ⟨k2, hk2, rfl, hno, hS⟩ := hrel
      by_cases hlt : k2 < m
      · obtain ⟨b, off, rfl, f⟩ := s7.intsD hml hlt
        obtain ⟨hb, c1⟩ := f k2 hlt wr hS.out.inv.fz
        have hzm : Hid (ns.getD k2 0 ∈ cnsL l) := Lib.hid (by rw [hns.out, getD_elem0 _ _ _ (by rw [hml.out]; exact hlt)]; exact List.getElem_mem _)
        have hnx : Hid (¬ (t2 < 1 ∨ ((clU l (ns.getD k2 0)).length : Int) < t2) → ∀ j, j < k2 + 1 → ¬ (t2 < 1 ∨ ((clU l (ns.getD j 0)).length : Int) < t2)) := Lib.hid (fun h j hj => by
          by_cases e : j = k2
          · rw [e]; exact h
          · exact hno.out j (by omega))
        clear f
        generalize ns.getD k2 0 = z at *
        have y1 : wr.cell? ⟨w.heap.size, 1, none⟩ = some (.int .i64 t1) := hS.out.k.cell 1
        have y2 : wr.cell? ⟨w.heap.size, 2, none⟩ = some (.int .i64 t2) := hS.out.k.cell 2
        by_cases e1 : t2 < 1
        · have g4 : decide (t2 < 1) = true := decide_eq_true e1
          have hq3 : Hid (1 = q) := Lib.hid (by rw [← hq4.out, if_pos (.inl e1)])
          clear e1
          go_upto_region 16 with (fail)
          go_quiet (fail)
          go_wp2
          go_ret
          exact ⟨ret_int hq3.out, bdrewN hS.out.inv.bel _⟩
        have g4 : decide (t2 < 1) = false := decide_eq_false e1
        obtain ⟨us, hus⟩ : ∃ us, Hid (clU l z = us) := ⟨_, Lib.hid rfl⟩
        obtain ⟨nu, hnu⟩ : ∃ nu, Hid (us.length = nu) := ⟨_, Lib.hid rfl⟩
        rw [hus.out, hnu.out] at hnx
        by_cases e2 : (nu : Int) < t2
        · have g5 : decide (t2 > (nu : Int)) = true := decide_eq_true e2
          have hq3 : Hid (1 = q) := Lib.hid (by rw [← hq4.out, if_pos (.inr ((few_le hlne.out).2 ⟨z, hzm.out, by rw [hus.out, hnu.out]; exact e2⟩))])
          clear e1 e2
          go_upto_region 16 with (fail)
          have hSd : Hid (RsSt w φ φ7 w.heap.size #[.string s, .int .i64 t1, .int .i64 t2] 73 wr.drew) := Lib.hid (hS.out.drewN 1)
          go_region_law ((go_simp; go_at_call 93; (with_reducible refine (Rcluster_any hSd.out.inv.fz HS7.out hn hl z).mono ?_); rintro e w8 ⟨a8, c8, φ8, rfl, hi8, s8⟩; rw [hus.out, hnu.out]; have hS8 := Lib.hid (hSd.out.callB hi8.bel); clear hi8 s8; have y8 : w8.cell? ⟨w.heap.size, 2, none⟩ = some (.int .i64 t2) := hS8.out.k.cell 2))
          all_goals
            go_wp2
            go_ret
            exact ⟨ret_int hq3.out, hS8.out.inv.bel⟩
        · have g5 : decide (t2 > (nu : Int)) = false := decide_eq_false e2
          have hnx2 := Lib.hid (hnx.out (by omega))
          clear e1 e2 hnx
          go_upto_region 16 with (fail)
          have hSd : Hid (RsSt w φ φ7 w.heap.size #[.string s, .int .i64 t1, .int .i64 t2] 73 wr.drew) := Lib.hid (hS.out.drewN 1)
          go_region_law ((go_simp; go_at_call 93; (with_reducible refine (Rcluster_any hSd.out.inv.fz HS7.out hn hl z).mono ?_); rintro e w8 ⟨a8, c8, φ8, rfl, hi8, s8⟩; rw [hus.out, hnu.out]; have hS8 := Lib.hid (hSd.out.callB hi8.bel); clear hi8 s8; have y8 : w8.cell? ⟨w.heap.size, 2, none⟩ = some (.int .i64 t2) := hS8.out.k.cell 2))
          all_goals
            go_wp2
            go_roundw
            case rel => exact ⟨k2 + 1, by omega, by go_num, hnx2, hS8⟩
            case measure => (simp [intOf] <;> omega)
      · obtain rfl : m = k2 := by omega
        have hq3 : Hid (0 = q) := Lib.hid (by
          rw [← hq4.out, if_neg]
          rintro (h | h)
          · exact hno.out 0 hm0 (.inl h)
          · obtain ⟨c, hc, hlt2⟩ := (few_le hlne.out).1 h
            rw [hns.out] at hc
            obtain ⟨i, hi, rfl⟩ := List.getElem_of_mem hc
            rw [hml.out] at hi
            exact hno.out i hi (.inr (by rw [getD_elem0 _ _ _ (by rw [hml.out]; exact hi)]; exact hlt2)))
        go_wp2
        go_ret
        exact ⟨ret_int hq3.out, hS.out.inv.bel⟩
end Go.Proofs.YtnlhalnjbkpdnaaGreatDoor

namespace Go.Proofs.YtnlhalnjbkpdnaaGreatDoor
open Go.RowKit Go.Sort
set_option linter.unusedVariables false
set_option linter.unusedSimpArgs false
theorem SlV.takD {φ : Phi} {a : Option Addr} {cap : Nat} {xs : List Tak} (h : SlV φ a cap xs) {k n : Nat} (hn : Hid (xs.length = n)) (hk : k < n) :
    ∃ b off, a = some ⟨b, off, none⟩ ∧ ∀ k, k < n → ∀ w, Fz φ w → b < w.heap.size ∧ w.cell? ⟨b, off + k * 3, none⟩ = some (.string (xs.getD k tak0).1) ∧ w.cell? ⟨b, off + k * 3 + 1, none⟩ = some (.int .i64 (xs.getD k tak0).2.1) ∧ w.cell? ⟨b, off + k * 3 + 2, none⟩ = some (.int .i64 (xs.getD k tak0).2.2) := by
  obtain ⟨b, off, ha, hc⟩ := h.cellsD tak0 hn hk
  refine ⟨b, off, ha, fun k hk w hw => ?_⟩
  obtain ⟨cs, ⟨c, d, rfl, h1, c2, d2, rfl, h2, h3⟩, hj⟩ := hc k hk
  cases h1; cases h2; cases h3
  have j0 := hj 0 (by simp)
  have j1 := hj 1 (by simp)
  have j2 := hj 2 (by simp)
  simp [Rep.size] at j0 j1 j2
  exact ⟨hw.lt j0, hw.cell j0, hw.cell j1, hw.cell j2⟩
theorem names_eq {ts : List Tak} {ns : List ByteArray} {n : Nat} (h1 : ts.length = n) (h2 : ns.length = n) (h : ∀ i, i < n → (ts.getD i tak0).1 = ns.getD i ByteArray.empty) : ts.map (·.1) = ns := by
  refine List.ext_getElem (by rw [List.length_map, h1, h2]) (fun i hi hj => ?_)
  rw [List.length_map] at hi
  have := h i (by omega)
  rw [getD_elem0 _ _ _ hi, getD_elem0 _ _ _ hj] at this
  rw [List.getElem_map]
  exact this
theorem names_ne {ts : List Tak} {ns : List ByteArray} {i : Nat} (h1 : i < ts.length) (h : ¬ (ts.getD i tak0).1 = ns.getD i ByteArray.empty) : ts.map (·.1) ≠ ns := by
  intro e
  apply h
  rw [← e, getD_elem0 _ _ _ h1, getD_elem0 _ _ _ (by rw [List.length_map]; exact h1), List.getElem_map]
theorem dsg_frm {kind : Int} {ts : List Tak} {l : List Unt} {f : Int} (h : frmU l = f) (h0 : f ≠ 0) : dsgF kind ts l = f := by
  unfold dsgF; rw [h, if_pos h0]
theorem dsg_kind {kind : Int} {ts : List Tak} {l : List Unt} (h : frmU l = 0) (hk : outB kind 1 3 = true) : dsgF kind ts l = 4 := by
  unfold dsgF; rw [h, if_neg (by simp), if_pos hk]
theorem dsg_form {kind : Int} {ts : List Tak} {l : List Unt} (h : frmU l = 0) (hk : outB kind 1 3 = false) (hn : ts.map (·.1) ≠ nmsL l) : dsgF kind ts l = 3 := by
  unfold dsgF; rw [h, if_neg (by simp), if_neg (by rw [hk]; simp), if_pos hn]
theorem dsg_scan {kind : Int} {ts : List Tak} {l : List Unt} (h : frmU l = 0) (hk : outB kind 1 3 = false) (hn : ts.map (·.1) = nmsL l) : dsgF kind ts l = scan (fun i => takF kind (ts.getD i tak0) (stU l (ts.getD i tak0).1)) ts.length := by
  unfold dsgF; rw [h, if_neg (by simp), if_neg (by rw [hk]; simp), if_neg (fun q => q hn)]
theorem kind_of {kind : Int} (h : outB kind 1 3 = false) : kind = 1 ∨ kind = 2 ∨ kind = 3 := by
  unfold outB at h; simp at h; omega
set_option maxRecDepth 100000 in
set_option maxHeartbeats 4000000 in
theorem RCheckDesign_any {w : World} {kind : Int} {aT : Option Addr} {cT nT : Nat} {ts : List Tak} {a : Option Addr} {c n : Nat} {l : List Unt} {φ : Phi} (hφ : Fz φ w) (ht : TabP φ) (st : SlV φ aT cT ts) (hnT : Hid (ts.length = nT)) (hmT : nT ≤ 9223372036854775807) (sl : SlV φ a c l) (hn : Hid (l.length = n)) (hm : n ≤ 9223372036854775807) (hs : Hid (∀ u ∈ l, u.2.1.size ≤ reachBytes)) {q : Int} (hq : Hid (dsgF kind ts l = q)) :
    Calls Tryz.prog 10 #[.agg #[.int .i64 kind, .slice aT nT cT], .slice a n c] w (fun e w' => e = .returned (.int .i64 q) ∧ Below w.heap.size w w') := by
  have hR0 := Lib.hid (RsSt.start (Inv.start hφ) #[.int .i64 kind, .slice aT nT cT] 24)
  have HS := Lib.hid sl
  have HT := Lib.hid ht
  have ST := Lib.hid st
  obtain ⟨f, hf⟩ : ∃ f, Hid (frmU l = f) := ⟨_, Lib.hid rfl⟩
  by_cases hf0 : f = 0
  case neg =>
    have g0 : ((f : Int) != 0) = true := by simp [hf0]
    have hq3 : Hid (f = q) := Lib.hid (by rw [← hq.out, dsg_frm hf.out hf0])
    clear hf0
    go_enter Tryz.func10, Tryz.ntmps10
    go_upto_region 1 with (fail)
    generalize w.alloc (.cells #[.int .i64 kind, .slice aT nT cT] 24) = w1 at *
    have y0 : w1.cell? ⟨w.heap.size, 0, none⟩ = some (.int .i64 kind) := hR0.out.k.cell 0
    have y1 : w1.cell? ⟨w.heap.size, 1, none⟩ = some (.slice aT nT cT) := hR0.out.k.cell 1
    go_wp2_with (
      go_at_call 36
      (with_reducible refine (RCheckFrame_any hR0.out.inv.fz HT.out HS.out hn hm hs).mono ?_)
      rintro e w2 ⟨rfl, hb2⟩
      rw [hf.out]
      have hR2 := Lib.hid (hR0.out.callB hb2)
      clear hb2 y0 y1
      have y0 : w2.cell? ⟨w.heap.size, 0, none⟩ = some (.int .i64 kind) := hR2.out.k.cell 0
      have y1 : w2.cell? ⟨w.heap.size, 1, none⟩ = some (.slice aT nT cT) := hR2.out.k.cell 1
      )
    go_ret
    exact ⟨ret_int hq3.out, hR2.out.inv.bel⟩
  subst hf0
  have hok := Lib.hid (frm_ok hf.out)
  have hl : n ≤ 5000 := by have := hok.out.1; rw [hn.out] at this; exact this
  by_cases k1 : kind < 1
  · have hq3 : Hid (4 = q) := Lib.hid (by rw [← hq.out, dsg_kind hf.out (by unfold outB; simp; omega)])
    go_enter Tryz.func10, Tryz.ntmps10
    go_upto_region 1 with (fail)
    generalize w.alloc (.cells #[.int .i64 kind, .slice aT nT cT] 24) = w1 at *
    have y0 : w1.cell? ⟨w.heap.size, 0, none⟩ = some (.int .i64 kind) := hR0.out.k.cell 0
    have y1 : w1.cell? ⟨w.heap.size, 1, none⟩ = some (.slice aT nT cT) := hR0.out.k.cell 1
    go_wp2_with (
      go_at_call 36
      (with_reducible refine (RCheckFrame_any hR0.out.inv.fz HT.out HS.out hn hm hs).mono ?_)
      rintro e w2 ⟨rfl, hb2⟩
      rw [hf.out]
      have hR2 := Lib.hid (hR0.out.callB hb2)
      clear hb2 y0 y1
      have y0 : w2.cell? ⟨w.heap.size, 0, none⟩ = some (.int .i64 kind) := hR2.out.k.cell 0
      have y1 : w2.cell? ⟨w.heap.size, 1, none⟩ = some (.slice aT nT cT) := hR2.out.k.cell 1
      )
    go_ret
    exact ⟨ret_int hq3.out, hR2.out.inv.bel⟩
  have g1 : decide (kind < 1) = false := decide_eq_false k1
  by_cases k2 : 3 < kind
  · have hq3 : Hid (4 = q) := Lib.hid (by rw [← hq.out, dsg_kind hf.out (by unfold outB; simp; omega)])
    have g2 : decide (kind > 3) = true := decide_eq_true k2
    go_enter Tryz.func10, Tryz.ntmps10
    go_upto_region 1 with (fail)
    generalize w.alloc (.cells #[.int .i64 kind, .slice aT nT cT] 24) = w1 at *
    have y0 : w1.cell? ⟨w.heap.size, 0, none⟩ = some (.int .i64 kind) := hR0.out.k.cell 0
    have y1 : w1.cell? ⟨w.heap.size, 1, none⟩ = some (.slice aT nT cT) := hR0.out.k.cell 1
    go_wp2_with (
      go_at_call 36
      (with_reducible refine (RCheckFrame_any hR0.out.inv.fz HT.out HS.out hn hm hs).mono ?_)
      rintro e w2 ⟨rfl, hb2⟩
      rw [hf.out]
      have hR2 := Lib.hid (hR0.out.callB hb2)
      clear hb2 y0 y1
      have y0 : w2.cell? ⟨w.heap.size, 0, none⟩ = some (.int .i64 kind) := hR2.out.k.cell 0
      have y1 : w2.cell? ⟨w.heap.size, 1, none⟩ = some (.slice aT nT cT) := hR2.out.k.cell 1
      )
    go_ret
    exact ⟨ret_int hq3.out, hR2.out.inv.bel⟩
  have g2 : decide (kind > 3) = false := decide_eq_false k2
  have hko : Hid (outB kind 1 3 = false) := Lib.hid (by unfold outB; simp; omega)
  have hk3 := Lib.hid (kind_of hko.out)
  clear k1 k2
  obtain ⟨ns, hns⟩ : ∃ ns, Hid (nmsL l = ns) := ⟨_, Lib.hid rfl⟩
  obtain ⟨m, hml⟩ : ∃ m, Hid (ns.length = m) := ⟨_, Lib.hid rfl⟩
  by_cases hmt : nT = m
  case neg =>
    have g3 : ((nT : Int) != (m : Int)) = true := by simp; omega
    have hq3 : Hid (3 = q) := Lib.hid (by rw [← hq.out, dsg_form hf.out hko.out (by intro e; have := congrArg List.length e; rw [List.length_map, hnT.out, hns.out, hml.out] at this; exact hmt this)])
    clear hmt
    go_enter Tryz.func10, Tryz.ntmps10
    go_upto_region 1 with (fail)
    generalize w.alloc (.cells #[.int .i64 kind, .slice aT nT cT] 24) = w1 at *
    have y0 : w1.cell? ⟨w.heap.size, 0, none⟩ = some (.int .i64 kind) := hR0.out.k.cell 0
    have y1 : w1.cell? ⟨w.heap.size, 1, none⟩ = some (.slice aT nT cT) := hR0.out.k.cell 1
    go_wp2_with (first
      | (
        go_at_call 36
        (with_reducible refine (RCheckFrame_any hR0.out.inv.fz HT.out HS.out hn hm hs).mono ?_)
        rintro e w2 ⟨rfl, hb2⟩
        rw [hf.out]
        have hR2 := Lib.hid (hR0.out.callB hb2)
        clear hb2 y0 y1
        have y0 : w2.cell? ⟨w.heap.size, 0, none⟩ = some (.int .i64 kind) := hR2.out.k.cell 0
        have y1 : w2.cell? ⟨w.heap.size, 1, none⟩ = some (.slice aT nT cT) := hR2.out.k.cell 1
        )
      | (
        go_at_call 37
        (with_reducible refine (Rnames_any hR2.out.inv.fz HS.out hn hl).mono ?_)
        rintro e w3 ⟨a3, c3, φ3, rfl, hi3, s3⟩
        rw [hns.out] at s3 ⊢
        rw [hml.out]
        have hR3 := Lib.hid (hR2.out.call hi3)
        have S3 := Lib.hid s3
        have HS3 := Lib.hid (HS.out.mono hi3.le)
        have ST3 := Lib.hid (ST.out.mono hi3.le)
        clear hi3 s3 y0 y1
        have y0 : w3.cell? ⟨w.heap.size, 0, none⟩ = some (.int .i64 kind) := hR3.out.k.cell 0
        have y1 : w3.cell? ⟨w.heap.size, 1, none⟩ = some (.slice aT nT cT) := hR3.out.k.cell 1
        )
      | fail)
    go_ret
    exact ⟨ret_int hq3.out, hR3.out.inv.bel⟩
  subst hmt
  have g3 : ((nT : Int) != (nT : Int)) = false := by simp
  go_enter Tryz.func10, Tryz.ntmps10
  go_upto_region 1 with (fail)
  generalize w.alloc (.cells #[.int .i64 kind, .slice aT nT cT] 24) = w1 at *
  have y0 : w1.cell? ⟨w.heap.size, 0, none⟩ = some (.int .i64 kind) := hR0.out.k.cell 0
  have y1 : w1.cell? ⟨w.heap.size, 1, none⟩ = some (.slice aT nT cT) := hR0.out.k.cell 1
  go_wp2_with (first
    | (
      go_at_call 36
      (with_reducible refine (RCheckFrame_any hR0.out.inv.fz HT.out HS.out hn hm hs).mono ?_)
      rintro e w2 ⟨rfl, hb2⟩
      rw [hf.out]
      have hR2 := Lib.hid (hR0.out.callB hb2)
      clear hb2 y0 y1
      have y0 : w2.cell? ⟨w.heap.size, 0, none⟩ = some (.int .i64 kind) := hR2.out.k.cell 0
      have y1 : w2.cell? ⟨w.heap.size, 1, none⟩ = some (.slice aT nT cT) := hR2.out.k.cell 1
      )
    | (
      go_at_call 37
      (with_reducible refine (Rnames_any hR2.out.inv.fz HS.out hn hl).mono ?_)
      rintro e w3 ⟨a3, c3, φ3, rfl, hi3, s3⟩
      rw [hns.out] at s3 ⊢
      rw [hml.out]
      have hR3 := Lib.hid (hR2.out.call hi3)
      have S3 := Lib.hid s3
      have HS3 := Lib.hid (HS.out.mono hi3.le)
      have ST3 := Lib.hid (ST.out.mono hi3.le)
      clear hi3 s3 y0 y1
      have y0 : w3.cell? ⟨w.heap.size, 0, none⟩ = some (.int .i64 kind) := hR3.out.k.cell 0
      have y1 : w3.cell? ⟨w.heap.size, 1, none⟩ = some (.slice aT nT cT) := hR3.out.k.cell 1
      )
    | fail)
  clear g1 g2 g3 y0 y1
  go_loopw [36] (fun i wr => ∃ k : Nat, k ≤ nT ∧ i = .int .i64 k ∧ Hid (∀ j, j < k → (ts.getD j tak0).1 = ns.getD j ByteArray.empty) ∧ Hid (RsSt w φ φ3 w.heap.size #[.int .i64 kind, .slice aT nT cT] 24 wr)) (fun i _ => nT - (intOf i).toNat)
  case atStart => exact ⟨0, Nat.zero_le _, rfl, Lib.hid (fun j hj => by omega), hR3⟩
  case round =>
    clear hR3
    obtain ⟨k, hk, rfl, hsame, hS⟩ := hrel
    by_cases hlt : k < nT
    · obtain ⟨b, off, rfl, f1⟩ := ST3.out.takD hnT hlt
      obtain ⟨b2, off2, rfl, f2⟩ := S3.out.strsD hml hlt
      obtain ⟨hb, c0, c1, c2⟩ := f1 k hlt wr hS.out.inv.fz
      have hF2 := Lib.hid (f2 k hlt)
      have hbad : Hid (¬ (ts.getD k tak0).1 = ns.getD k ByteArray.empty → 3 = q) := Lib.hid (fun h => by
        rw [← hq.out, dsg_form hf.out hko.out]
        rw [hns.out]
        exact names_ne (by rw [hnT.out]; exact hlt) h)
      have hnx : Hid ((ts.getD k tak0).1 = ns.getD k ByteArray.empty → ∀ j, j < k + 1 → (ts.getD j tak0).1 = ns.getD j ByteArray.empty) := Lib.hid (fun h j hj => by
        by_cases e : j = k
        · rw [e]; exact h
        · exact hsame.out j (by omega))
      clear f1 f2
      generalize ts.getD k tak0 = X at *
      obtain ⟨s, t1, t2⟩ := X
      generalize ns.getD k ByteArray.empty = z at *
      dsimp only at c0 c1 c2 hbad hnx
      have hS2 := Lib.hid (hS.out.callB ((Below.refl _ _).alloc (Nat.le_refl _) (.cells #[.string s, .int .i64 t1, .int .i64 t2] 73)))
      have hK := Lib.hid (Blk.new wr #[.string s, .int .i64 t1, .int .i64 t2] 73)
      go_upto_region 12 with (fail)
      clear c0 c1 c2 hb hS
      generalize wr.alloc (.cells #[.string s, .int .i64 t1, .int .i64 t2] 73) = wj at *
      generalize wr.heap.size = bj at *
      have y0 : wj.cell? ⟨bj, 0, none⟩ = some (.string s) := hK.out.cell 0
      obtain ⟨hb2, y1⟩ := hF2.out wj hS2.out.inv.fz
      by_cases hz : s = z
      · have gz : (s.toList == z.toList) = true := str_eq_t hz
        have hnx2 := Lib.hid (hnx.out hz)
        clear hz hnx hbad
        go_quiet (fail)
        go_wp2
        go_roundw
        case rel => exact ⟨k + 1, by omega, by go_num, hnx2, Lib.hid (hS2.out.drewN _)⟩
        case measure => (simp [intOf] <;> omega)
      · have gz : (s.toList == z.toList) = false := str_eq_f hz
        have hq3 := Lib.hid (hbad.out hz)
        clear hz hnx hbad
        go_quiet (fail)
        go_wp2
        go_ret
        exact ⟨ret_int hq3.out, (hS2.out.drewN _).inv.bel⟩
    · obtain rfl : nT = k := by omega
      have hq4 : Hid (scan (fun i => takF kind (ts.getD i tak0) (stU l (ts.getD i tak0).1)) nT = q) := Lib.hid (by
        rw [← hq.out, dsg_scan hf.out hko.out (by rw [hns.out]; exact names_eq hnT.out hml.out hsame.out), hnT.out])
      have hmem : Hid (∀ i, i < nT → (ts.getD i tak0).1 ∈ nmsL l) := Lib.hid (fun i hi => by
        rw [hsame.out i hi, hns.out, getD_elem0 _ _ _ (by rw [hml.out]; exact hi)]
        exact List.getElem_mem _)
      have y1 : wr.cell? ⟨w.heap.size, 1, none⟩ = some (.slice aT nT cT) := hS.out.k.cell 1
      clear hsame
      go_wp2
      clear y1
      go_loopw [52] (fun i wr => ∃ k : Nat, k ≤ nT ∧ i = .int .i64 k ∧ Hid (∀ i, i < k → (fun i => takF kind (ts.getD i tak0) (stU l (ts.getD i tak0).1)) i = 0) ∧ Hid (RsSt w φ φ3 w.heap.size #[.int .i64 kind, .slice aT nT cT] 24 wr)) (fun i _ => nT - (intOf i).toNat)
      case atStart => exact ⟨0, Nat.zero_le _, rfl, none_yet _, hS⟩
      case round =>
        clear hS
        obtain ⟨k, hk, rfl, hok2, hS⟩ := hrel
        by_cases hlt : k < nT
        · obtain ⟨b, off, rfl, f1⟩ := ST3.out.takD hnT hlt
          obtain ⟨hb, c0, c1, c2⟩ := f1 k hlt wr hS.out.inv.fz
          have hms := Lib.hid (hmem.out k hlt)
          have hF : Hid ((fun i => takF kind (ts.getD i tak0) (stU l (ts.getD i tak0).1)) k = takF kind (ts.getD k tak0) (stU l (ts.getD k tak0).1)) := Lib.hid rfl
          clear f1
          generalize ts.getD k tak0 = X at *
          obtain ⟨s, t1, t2⟩ := X
          dsimp only at c0 c1 c2 hms hF
          obtain ⟨us, hus⟩ : ∃ us, Hid (stU l s = us) := ⟨_, Lib.hid rfl⟩
          obtain ⟨nu, hnu⟩ : ∃ nu, Hid (us.length = nu) := ⟨_, Lib.hid rfl⟩
          have hul : nu ≤ 5000 := by rw [← hnu.out, ← hus.out]; exact Nat.le_trans (stU_len l s) (by rw [hn.out]; exact hl)
          have hu0 : 0 < nu := by rw [← hnu.out, ← hus.out]; exact List.length_pos_iff.2 (stU_ne.2 hms.out)
          have hoku : Hid (∀ u ∈ us, 1 ≤ u.2.2.2 ∧ u.2.2.2 ≤ 1000000) := Lib.hid (fun u hu => by rw [← hus.out] at hu; exact (hok.out.2.2 u (stU_mem hu)).2.2)
          obtain ⟨v, hv⟩ : ∃ v, Hid (takF kind (s, t1, t2) us = v) := ⟨_, Lib.hid rfl⟩
          rw [hus.out, hv.out] at hF
          have hS2 := Lib.hid (hS.out.callB ((Below.refl _ _).alloc (Nat.le_refl _) (.cells #[.string s, .int .i64 t1, .int .i64 t2] 73)))
          have hT2 := Lib.hid (RsSt.start hS.out.inv #[.string s, .int .i64 t1, .int .i64 t2] 73)
          go_upto_region 18 with (fail)
          clear c0 c1 c2 hb hS
          generalize wr.alloc (.cells #[.string s, .int .i64 t1, .int .i64 t2] 73) = wj at *
          generalize wr.heap.size = bj at *
          have hSd : Hid (RsSt w φ φ3 w.heap.size #[.int .i64 kind, .slice (some ⟨b, off, none⟩) nT cT] 24 wj.drew) := Lib.hid (hS2.out.drewN 1)
          have hTd : Hid (RsSt w φ φ3 bj #[.string s, .int .i64 t1, .int .i64 t2] 73 wj.drew) := Lib.hid (hT2.out.drewN 1)
          have y0 : wj.drew.cell? ⟨w.heap.size, 0, none⟩ = some (.int .i64 kind) := hSd.out.k.cell 0
          have y1 : wj.drew.cell? ⟨bj, 0, none⟩ = some (.string s) := hTd.out.k.cell 0
          have y2 : wj.drew.cell? ⟨bj, 1, none⟩ = some (.int .i64 t1) := hTd.out.k.cell 1
          have y3 : wj.drew.cell? ⟨bj, 2, none⟩ = some (.int .i64 t2) := hTd.out.k.cell 2
          clear hS2 hT2
          by_cases hv0 : v = 0
          · have gv : ((v : Int) != 0) = false := by simp [hv0]
            have hnx := next_ok hok2 (hF.out.trans hv0)
            clear hv0
            go_region_held3 (fun w' => w'.cell? ⟨w.heap.size, 0, none⟩ = some (.int .i64 kind) ∧ w'.cell? ⟨bj, 0, none⟩ = some (.string s) ∧ w'.cell? ⟨bj, 1, none⟩ = some (.int .i64 t1) ∧ w'.cell? ⟨bj, 2, none⟩ = some (.int .i64 t2)) (first | with_reducible exact ⟨y0, y1, y2, y3⟩ | with_reducible exact ⟨by assumption, by assumption, by assumption, by assumption⟩) (first
              | (go_at_call 34; (with_reducible refine (Rof_any hSd.out.inv.fz HS3.out hn hl s).mono ?_); rintro e w5 ⟨a5, c5, φ5, rfl, hi5, s5⟩; rw [hus.out] at s5 ⊢; rw [hnu.out]; have hS5 := Lib.hid (hSd.out.call hi5); have hT5 := Lib.hid (hTd.out.call hi5); have hS5B := Lib.hid (hSd.out.callB hi5.bel); have S5 := Lib.hid s5; clear hi5 s5; have z0 : w5.cell? ⟨w.heap.size, 0, none⟩ = some (.int .i64 kind) := hS5.out.k.cell 0; have z1 : w5.cell? ⟨bj, 0, none⟩ = some (.string s) := hT5.out.k.cell 0; have z2 : w5.cell? ⟨bj, 1, none⟩ = some (.int .i64 t1) := hT5.out.k.cell 1; have z3 : w5.cell? ⟨bj, 2, none⟩ = some (.int .i64 t2) := hT5.out.k.cell 2)
              | (go_at_call 38; (with_reducible refine (RcheckTake_any hk3.out hS5.out.inv.fz S5.out hnu hu0 hul hoku hv).mono ?_); rintro e w6 ⟨rfl, hb6⟩; have hS6 := Lib.hid (hS5B.out.callB hb6); have hT6 := Lib.hid (hT5.out.callB hb6); clear hb6; have v0 : w6.cell? ⟨w.heap.size, 0, none⟩ = some (.int .i64 kind) := hS6.out.k.cell 0; have v1 : w6.cell? ⟨bj, 0, none⟩ = some (.string s) := hT6.out.k.cell 0; have v2 : w6.cell? ⟨bj, 1, none⟩ = some (.int .i64 t1) := hT6.out.k.cell 1; have v3 : w6.cell? ⟨bj, 2, none⟩ = some (.int .i64 t2) := hT6.out.k.cell 2)
              | fail)
            go_wp2
            go_roundw
            case rel => exact ⟨k + 1, by omega, by go_num, hnx, hS6⟩
            case measure => (simp [intOf] <;> omega)
          · have gv : ((v : Int) != 0) = true := by simp [hv0]
            have hq3 : Hid (v = q) := Lib.hid (by
              rw [← hq4.out, scan_stop hok2.out hlt (by rw [hF.out]; exact hv0), hF.out])
            clear hv0
            go_region_held3 (fun w' => w'.cell? ⟨w.heap.size, 0, none⟩ = some (.int .i64 kind) ∧ w'.cell? ⟨bj, 0, none⟩ = some (.string s) ∧ w'.cell? ⟨bj, 1, none⟩ = some (.int .i64 t1) ∧ w'.cell? ⟨bj, 2, none⟩ = some (.int .i64 t2)) (first | with_reducible exact ⟨y0, y1, y2, y3⟩ | with_reducible exact ⟨by assumption, by assumption, by assumption, by assumption⟩) (first
              | (go_at_call 34; (with_reducible refine (Rof_any hSd.out.inv.fz HS3.out hn hl s).mono ?_); rintro e w5 ⟨a5, c5, φ5, rfl, hi5, s5⟩; rw [hus.out] at s5 ⊢; rw [hnu.out]; have hS5 := Lib.hid (hSd.out.call hi5); have hT5 := Lib.hid (hTd.out.call hi5); have hS5B := Lib.hid (hSd.out.callB hi5.bel); have S5 := Lib.hid s5; clear hi5 s5; have z0 : w5.cell? ⟨w.heap.size, 0, none⟩ = some (.int .i64 kind) := hS5.out.k.cell 0; have z1 : w5.cell? ⟨bj, 0, none⟩ = some (.string s) := hT5.out.k.cell 0; have z2 : w5.cell? ⟨bj, 1, none⟩ = some (.int .i64 t1) := hT5.out.k.cell 1; have z3 : w5.cell? ⟨bj, 2, none⟩ = some (.int .i64 t2) := hT5.out.k.cell 2)
              | (go_at_call 38; (with_reducible refine (RcheckTake_any hk3.out hS5.out.inv.fz S5.out hnu hu0 hul hoku hv).mono ?_); rintro e w6 ⟨rfl, hb6⟩; have hS6 := Lib.hid (hS5B.out.callB hb6); have hT6 := Lib.hid (hT5.out.callB hb6); clear hb6; have v0 : w6.cell? ⟨w.heap.size, 0, none⟩ = some (.int .i64 kind) := hS6.out.k.cell 0; have v1 : w6.cell? ⟨bj, 0, none⟩ = some (.string s) := hT6.out.k.cell 0; have v2 : w6.cell? ⟨bj, 1, none⟩ = some (.int .i64 t1) := hT6.out.k.cell 1; have v3 : w6.cell? ⟨bj, 2, none⟩ = some (.int .i64 t2) := hT6.out.k.cell 2)
              | fail)
            go_wp2
            go_ret
            exact ⟨ret_int hq3.out, hS6.out.inv.bel⟩
        · obtain rfl : nT = k := by omega
          have hq3 : Hid (0 = q) := Lib.hid (by rw [← hq4.out, scan_zero _ _ hok2.out])
          go_wp2
          go_ret
          exact ⟨ret_int hq3.out, hS.out.inv.bel⟩
end Go.Proofs.YtnlhalnjbkpdnaaGreatDoor

namespace Go.Proofs.YtnlhalnjbkpdnaaGreatDoor
open Go.RowKit Go.Sort
set_option linter.unusedVariables false
set_option linter.unusedSimpArgs false
/-- Two boxes that are only read: a layer and a take. -/
def LtB (bx bt : Nat) (nm : ByteArray) (aU : Option Addr) (nU cU : Nat) (S : Int) (aC : Option Addr) (nC cC : Nat) (s : ByteArray) (t1 t2 : Int) (W : World) : Prop :=
  W.cell? ⟨bx, 0, none⟩ = some (.string nm) ∧ W.cell? ⟨bx, 1, none⟩ = some (.slice aU nU cU) ∧ W.cell? ⟨bx, 2, none⟩ = some (.int .i64 S) ∧ W.cell? ⟨bx, 3, none⟩ = some (.slice aC nC cC) ∧
  W.cell? ⟨bt, 0, none⟩ = some (.string s) ∧ W.cell? ⟨bt, 1, none⟩ = some (.int .i64 t1) ∧ W.cell? ⟨bt, 2, none⟩ = some (.int .i64 t2)
theorem fold_few {us : List Unt} {ns : List Int} {k n : Nat} (hn : ns.length = n) (hk : k < n) (m : Int) : (ns.take (k + 1)).foldl (fun m c => min m ((clU us c).length : Int)) m = min ((ns.take k).foldl (fun m c => min m ((clU us c).length : Int)) m) ((clU us (ns.getD k 0)).length : Int) := by
  rw [take_snocD 0 ns k n hn hk, List.foldl_append]
  rfl
set_option maxRecDepth 100000 in
set_option maxHeartbeats 4000000 in
theorem fits_any {w : World} {kind : Int} (hk : kind = 1 ∨ kind = 2 ∨ kind = 3) {s : ByteArray} {t1 t2 : Int} {nm : ByteArray} {aU aC : Option Addr} {nU cU nC cC : Nat} {S : Int} {us : List Unt} {φ : Phi} (hφ : Fz φ w) (sU : SlV φ aU cU us) (sC : SlV φ aC cC ((cnsL us).map (cluF us))) (hn : Hid (us.length = nU)) (hnC : Hid ((cnsL us).length = nC)) (h0 : 0 < nU) (hl : nU ≤ 5000) (hok : Hid (∀ u ∈ us, 1 ≤ u.2.2.2 ∧ u.2.2.2 ≤ 1000000)) (hS : Hid (szU us = S)) {q : Int} (hq : Hid (takF kind (s, t1, t2) us = q)) :
    Calls Tryz.prog 86 #[.agg #[.string nm, .slice aU nU cU, .int .i64 S, .slice aC nC cC], .int .i64 kind, .agg #[.string s, .int .i64 t1, .int .i64 t2]] w (fun e w' => e = .returned (.int .i64 q) ∧ Below w.heap.size w w') := by
  obtain ⟨φ1, hle1, hi1, hb1⟩ := (Inv.start hφ).frz (.cells #[.string nm, .slice aU nU cU, .int .i64 S, .slice aC nC cC] 137)
  obtain ⟨φ2, hle2, hi2, hb2⟩ := hi1.frz (.cells #[.string s, .int .i64 t1, .int .i64 t2] 73)
  rw [alloc_sz] at hb2
  have HB1 := Lib.hid (hle2 _ _ hb1)
  have HB2 := Lib.hid hb2
  have hI0 := Lib.hid hi2
  have SU := Lib.hid (sU.mono (hle1.trans hle2))
  have SC := Lib.hid (sC.mono (hle1.trans hle2))
  have hbox : Hid (∀ W, Fz φ2 W → LtB w.heap.size (w.heap.size + 1) nm aU nU cU S aC nC cC s t1 t2 W) := Lib.hid (fun W hf => ⟨box_cell HB1.out φ2.le_refl hf 0, box_cell HB1.out φ2.le_refl hf 1, box_cell HB1.out φ2.le_refl hf 2, box_cell HB1.out φ2.le_refl hf 3, box_cell HB2.out φ2.le_refl hf 0, box_cell HB2.out φ2.le_refl hf 1, box_cell HB2.out φ2.le_refl hf 2⟩)
  clear hle1 hle2 hi1 hi2 hb1 hb2 HB1 HB2 hφ sU sC
  have hE := Lib.hid (els_of (kind := kind) hn.out h0 hl hok.out)
  obtain ⟨xs, hxs⟩ : ∃ xs, Hid (elmL kind us = xs) := ⟨_, Lib.hid rfl⟩
  obtain ⟨k, hk5⟩ : ∃ k, Hid ((elmL kind us).length = k) := ⟨_, Lib.hid rfl⟩
  obtain ⟨mx, hmx⟩ : ∃ m, Hid (mxL (elmL kind us) = m) := ⟨_, Lib.hid rfl⟩
  rw [hk5.out, hmx.out, hS.out, hxs.out] at hE
  rcases hk with rfl | rfl | rfl
  · by_cases h2 : t2 = 0
    case neg =>
      have g2 : ((t2 : Int) != 0) = true := by simp [h2]
      have hq3 : Hid (3 = q) := Lib.hid (by rw [← hq.out]; exact (takF_x (by decide) h2).symm)
      clear h2
      go_enter Tryz.func86, Tryz.ntmps86
      go_upto_region 1 with (fail)
      generalize (w.alloc (.cells #[.string nm, .slice aU nU cU, .int .i64 S, .slice aC nC cC] 137)).alloc (.cells #[.string s, .int .i64 t1, .int .i64 t2] 73) = w1 at *
      obtain ⟨y0, y1, y2, y3, y4, y5, y6⟩ := hbox.out w1 hI0.out.fz
      go_wp2
      go_ret
      exact ⟨ret_int hq3.out, hI0.out.bel⟩
    subst h2
    have hq2 := Lib.hid ((takF_n (kind := 1) (s := s) (t1 := t1) (l := us) (by decide)).symm.trans hq.out)
    rw [hk5.out, hmx.out, hS.out] at hq2
    have hxs : Hid (szL us = xs) := hxs
    have hk5 : Hid ((szL us).length = k) := hk5
    have hkn : k = nU := by rw [← hk5.out, ← hn.out]; exact List.length_map _
    subst hkn
    by_cases d1 : t1 < 0
    · have hq3 : Hid (1 = q) := Lib.hid (by rw [← hq2.out, if_pos (.inl d1)])
      have ho : Hid (outB t1 0 k = true) := Lib.hid (by unfold outB; simp; omega)
      go_enter Tryz.func86, Tryz.ntmps86
      go_upto_region 1 with (fail)
      generalize (w.alloc (.cells #[.string nm, .slice aU k cU, .int .i64 S, .slice aC nC cC] 137)).alloc (.cells #[.string s, .int .i64 t1, .int .i64 0] 73) = w1 at *
      obtain ⟨y0, y1, y2, y3, y4, y5, y6⟩ := hbox.out w1 hI0.out.fz
      go_wp2_with (
        go_at_call 83
        (with_reducible refine (outsideZ_b _ _ _ _ ho.out).mono ?_)
        rintro e w2 ⟨rfl, rfl⟩
        )
      go_ret
      exact ⟨ret_int hq3.out, hI0.out.bel⟩
    by_cases d2 : (k : Int) < t1
    · have hq3 : Hid (1 = q) := Lib.hid (by rw [← hq2.out, if_pos (.inr d2)])
      have ho : Hid (outB t1 0 k = true) := Lib.hid (by unfold outB; simp; omega)
      go_enter Tryz.func86, Tryz.ntmps86
      go_upto_region 1 with (fail)
      generalize (w.alloc (.cells #[.string nm, .slice aU k cU, .int .i64 S, .slice aC nC cC] 137)).alloc (.cells #[.string s, .int .i64 t1, .int .i64 0] 73) = w1 at *
      obtain ⟨y0, y1, y2, y3, y4, y5, y6⟩ := hbox.out w1 hI0.out.fz
      go_wp2_with (
        go_at_call 83
        (with_reducible refine (outsideZ_b _ _ _ _ ho.out).mono ?_)
        rintro e w2 ⟨rfl, rfl⟩
        )
      go_ret
      exact ⟨ret_int hq3.out, hI0.out.bel⟩
    have hq3 : Hid (0 = q) := Lib.hid (by rw [← hq2.out, if_neg (by omega)]; rfl)
    have ho : Hid (outB t1 0 k = false) := Lib.hid (by unfold outB; simp; omega)
    go_enter Tryz.func86, Tryz.ntmps86
    go_upto_region 1 with (fail)
    generalize (w.alloc (.cells #[.string nm, .slice aU k cU, .int .i64 S, .slice aC nC cC] 137)).alloc (.cells #[.string s, .int .i64 t1, .int .i64 0] 73) = w1 at *
    obtain ⟨y0, y1, y2, y3, y4, y5, y6⟩ := hbox.out w1 hI0.out.fz
    go_wp2_with (
      go_at_call 83
      (with_reducible refine (outsideZ_b _ _ _ _ ho.out).mono ?_)
      rintro e w2 ⟨rfl, rfl⟩
      )
    go_quiet (fail)
    go_wp2
    go_ret
    exact ⟨ret_int hq3.out, bdrewN hI0.out.bel _⟩
  · by_cases h2 : t2 = 0
    case neg =>
      have g2 : ((t2 : Int) != 0) = true := by simp [h2]
      have hq3 : Hid (3 = q) := Lib.hid (by rw [← hq.out]; exact (takF_x (by decide) h2).symm)
      clear h2
      go_enter Tryz.func86, Tryz.ntmps86
      go_upto_region 1 with (fail)
      generalize (w.alloc (.cells #[.string nm, .slice aU nU cU, .int .i64 S, .slice aC nC cC] 137)).alloc (.cells #[.string s, .int .i64 t1, .int .i64 t2] 73) = w1 at *
      obtain ⟨y0, y1, y2, y3, y4, y5, y6⟩ := hbox.out w1 hI0.out.fz
      go_wp2
      go_ret
      exact ⟨ret_int hq3.out, hI0.out.bel⟩
    subst h2
    have hq2 := Lib.hid ((takF_n (kind := 2) (s := s) (t1 := t1) (l := us) (by decide)).symm.trans hq.out)
    rw [hk5.out, hmx.out, hS.out] at hq2
    have hxs : Hid (szL us = xs) := hxs
    have hk5 : Hid ((szL us).length = k) := hk5
    have hkn : k = nU := by rw [← hk5.out, ← hn.out]; exact List.length_map _
    subst hkn
    by_cases d1 : t1 < 0
    · have hq3 : Hid (1 = q) := Lib.hid (by rw [← hq2.out, if_pos (.inl d1)])
      have ho : Hid (outB t1 0 k = true) := Lib.hid (by unfold outB; simp; omega)
      go_enter Tryz.func86, Tryz.ntmps86
      go_upto_region 1 with (fail)
      generalize (w.alloc (.cells #[.string nm, .slice aU k cU, .int .i64 S, .slice aC nC cC] 137)).alloc (.cells #[.string s, .int .i64 t1, .int .i64 0] 73) = w1 at *
      obtain ⟨y0, y1, y2, y3, y4, y5, y6⟩ := hbox.out w1 hI0.out.fz
      go_wp2_with (
        go_at_call 83
        (with_reducible refine (outsideZ_b _ _ _ _ ho.out).mono ?_)
        rintro e w2 ⟨rfl, rfl⟩
        )
      go_ret
      exact ⟨ret_int hq3.out, hI0.out.bel⟩
    by_cases d2 : (k : Int) < t1
    · have hq3 : Hid (1 = q) := Lib.hid (by rw [← hq2.out, if_pos (.inr d2)])
      have ho : Hid (outB t1 0 k = true) := Lib.hid (by unfold outB; simp; omega)
      go_enter Tryz.func86, Tryz.ntmps86
      go_upto_region 1 with (fail)
      generalize (w.alloc (.cells #[.string nm, .slice aU k cU, .int .i64 S, .slice aC nC cC] 137)).alloc (.cells #[.string s, .int .i64 t1, .int .i64 0] 73) = w1 at *
      obtain ⟨y0, y1, y2, y3, y4, y5, y6⟩ := hbox.out w1 hI0.out.fz
      go_wp2_with (
        go_at_call 83
        (with_reducible refine (outsideZ_b _ _ _ _ ho.out).mono ?_)
        rintro e w2 ⟨rfl, rfl⟩
        )
      go_ret
      exact ⟨ret_int hq3.out, hI0.out.bel⟩
    have hmu := mul_bd hE (show 0 ≤ t1 by omega) (show t1 ≤ k by omega)
    have hw : IntKind.i64.wrap (t1 * mx) = t1 * mx := IntWalk.i64_in _ (by omega)
    have ho : Hid (outB t1 0 k = false) := Lib.hid (by unfold outB; simp; omega)
    by_cases d3 : S < t1 * mx
    · have hq3 : Hid (1 = q) := Lib.hid (by rw [← hq2.out, if_neg (by omega), if_neg (by decide), if_pos d3])
      have g3 : decide (t1 * mx > S) = true := decide_eq_true d3
      clear d1 d2 d3 hmu
      go_enter Tryz.func86, Tryz.ntmps86
      go_upto_region 1 with (fail)
      generalize (w.alloc (.cells #[.string nm, .slice aU k cU, .int .i64 S, .slice aC nC cC] 137)).alloc (.cells #[.string s, .int .i64 t1, .int .i64 0] 73) = w1 at *
      obtain ⟨y0, y1, y2, y3, y4, y5, y6⟩ := hbox.out w1 hI0.out.fz
      go_upto_region 6 with (
        go_at_call 83
        (with_reducible refine (outsideZ_b _ _ _ _ ho.out).mono ?_)
        rintro e w2 ⟨rfl, rfl⟩
        )
      have hId : Hid (Inv w.heap.size w φ φ2 w1.drew) := Lib.hid (hI0.out.drewN 1)
      have hB := hbox.out w1.drew hId.out.fz
      clear y0 y1 y2 y3 y4 y5 y6
      obtain ⟨y0, y1, y2, y3, y4, y5, y6⟩ := hB
      go_region_held3 (fun w' => w'.cell? ⟨w.heap.size + 1, 1, none⟩ = some (.int .i64 t1) ∧ w'.cell? ⟨w.heap.size, 1, none⟩ = some (.slice aU k cU) ∧ w'.cell? ⟨w.heap.size, 2, none⟩ = some (.int .i64 S)) (first | with_reducible exact ⟨y5, y1, y2⟩ | with_reducible exact ⟨by assumption, by assumption, by assumption⟩) (first
        | (go_at_call 106; (with_reducible refine (PsizesOf_any hId.out.fz SU.out hn hl).mono ?_); rintro e w6 ⟨a6, c6, φ6, rfl, hi6, s6⟩; rw [hxs.out] at s6 ⊢; rw [hE.out.len]; have hI6 := Lib.hid (hId.out.call hi6); have hI6B := Lib.hid (hId.out.callB hi6.bel); have S6 := Lib.hid s6; obtain ⟨z0, z1, z2, z3, z4, z5, z6⟩ := hbox.out w6 hI6B.out.fz; clear hi6 s6)
        | (go_at_call 99; (with_reducible refine (max_q hI6.out.fz S6.out hE).mono ?_); rintro e w7 ⟨rfl, hw7⟩; have hI7 : Hid (Inv w.heap.size w φ φ2 w7) := Lib.hid (by rw [hw7]; exact hI6B.out); clear hw7; obtain ⟨v0, v1, v2, v3, v4, v5, v6⟩ := hbox.out w7 hI7.out.fz)
        | fail)
      go_wp2
      go_ret
      exact ⟨ret_int hq3.out, hI7.out.bel⟩
    · have hq3 : Hid (0 = q) := Lib.hid (by rw [← hq2.out, if_neg (by omega), if_neg (by decide), if_neg d3])
      have g3 : decide (t1 * mx > S) = false := decide_eq_false d3
      clear d1 d2 d3 hmu
      go_enter Tryz.func86, Tryz.ntmps86
      go_upto_region 1 with (fail)
      generalize (w.alloc (.cells #[.string nm, .slice aU k cU, .int .i64 S, .slice aC nC cC] 137)).alloc (.cells #[.string s, .int .i64 t1, .int .i64 0] 73) = w1 at *
      obtain ⟨y0, y1, y2, y3, y4, y5, y6⟩ := hbox.out w1 hI0.out.fz
      go_upto_region 6 with (
        go_at_call 83
        (with_reducible refine (outsideZ_b _ _ _ _ ho.out).mono ?_)
        rintro e w2 ⟨rfl, rfl⟩
        )
      have hId : Hid (Inv w.heap.size w φ φ2 w1.drew) := Lib.hid (hI0.out.drewN 1)
      have hB := hbox.out w1.drew hId.out.fz
      clear y0 y1 y2 y3 y4 y5 y6
      obtain ⟨y0, y1, y2, y3, y4, y5, y6⟩ := hB
      go_region_held3 (fun w' => w'.cell? ⟨w.heap.size + 1, 1, none⟩ = some (.int .i64 t1) ∧ w'.cell? ⟨w.heap.size, 1, none⟩ = some (.slice aU k cU) ∧ w'.cell? ⟨w.heap.size, 2, none⟩ = some (.int .i64 S)) (first | with_reducible exact ⟨y5, y1, y2⟩ | with_reducible exact ⟨by assumption, by assumption, by assumption⟩) (first
        | (go_at_call 106; (with_reducible refine (PsizesOf_any hId.out.fz SU.out hn hl).mono ?_); rintro e w6 ⟨a6, c6, φ6, rfl, hi6, s6⟩; rw [hxs.out] at s6 ⊢; rw [hE.out.len]; have hI6 := Lib.hid (hId.out.call hi6); have hI6B := Lib.hid (hId.out.callB hi6.bel); have S6 := Lib.hid s6; obtain ⟨z0, z1, z2, z3, z4, z5, z6⟩ := hbox.out w6 hI6B.out.fz; clear hi6 s6)
        | (go_at_call 99; (with_reducible refine (max_q hI6.out.fz S6.out hE).mono ?_); rintro e w7 ⟨rfl, hw7⟩; have hI7 : Hid (Inv w.heap.size w φ φ2 w7) := Lib.hid (by rw [hw7]; exact hI6B.out); clear hw7; obtain ⟨v0, v1, v2, v3, v4, v5, v6⟩ := hbox.out w7 hI7.out.fz)
        | fail)
      go_wp2
      go_ret
      exact ⟨ret_int hq3.out, hI7.out.bel⟩
  · have hq2 := Lib.hid (takF_s.symm.trans hq.out)
    have hxs : Hid (csL us = xs) := hxs
    have hk5 : Hid ((csL us).length = k) := hk5
    have hmx : Hid (mxL (csL us) = mx) := hmx
    have hkn : nC = k := by rw [← hk5.out, ← hnC.out]; exact (List.length_map _).symm
    subst hkn
    obtain ⟨fw, hfw⟩ : ∃ f, Hid (fewL us = f) := ⟨_, Lib.hid rfl⟩
    rw [hk5.out, hmx.out, hS.out, hfw.out] at hq2
    obtain ⟨ns, hns⟩ : ∃ ns, Hid (cnsL us = ns) := ⟨_, Lib.hid rfl⟩
    have hcs : Hid ((ns.map (cluF us)).map (fun x => x.2.1) = xs) := Lib.hid (by rw [← hns.out, csL_map, hxs.out])
    have hml : Hid (ns.length = nC) := Lib.hid (by rw [← hns.out]; exact hnC.out)
    have hcl : Hid ((ns.map (cluF us)).length = nC) := Lib.hid (by rw [List.length_map, hml.out])
    have hfw : Hid (ns.foldl (fun m c => min m ((clU us c).length : Int)) (nU : Int) = fw) := Lib.hid (by rw [← hns.out, ← hn.out]; exact hfw.out)
    have hC5 : nC ≤ 5000 := hE.out.hi
    rw [hns.out] at SC
    go_enter Tryz.func86, Tryz.ntmps86
    go_upto_region 1 with (fail)
    generalize (w.alloc (.cells #[.string nm, .slice aU nU cU, .int .i64 S, .slice aC nC cC] 137)).alloc (.cells #[.string s, .int .i64 t1, .int .i64 t2] 73) = w1 at *
    obtain ⟨y0, y1, y2, y3, y4, y5, y6⟩ := hbox.out w1 hI0.out.fz
    go_wp2
    clear y0 y1 y2 y3 y4 y5 y6
    go_loopw [7, 41] (fun m i wr => ∃ (k2 : Nat) (v : Int), k2 ≤ nC ∧ i = .int .i64 k2 ∧ m = .int .i64 v ∧ Hid ((ns.take k2).foldl (fun m c => min m ((clU us c).length : Int)) (nU : Int) = v) ∧ Hid (Inv w.heap.size w φ φ2 wr)) (fun _ i _ => nC - (intOf i).toNat)
    case atStart => exact ⟨0, (nU : Int), Nat.zero_le _, rfl, rfl, Lib.hid rfl, hI0⟩
    case round =>
      clear hI0
      obtain ⟨k2, v, hk2, rfl, rfl, hv, hI⟩ := hrel
      by_cases hlt : k2 < nC
      · obtain ⟨b, off, rfl, f⟩ := SC.out.cluD hcl hlt
        obtain ⟨a1, c1, sV, f⟩ := f k2 hlt
        obtain ⟨hb, d0, d1, d2⟩ := f wr hI.out.fz
        have hst := Lib.hid (fold_few (us := us) hml.out hlt (nU : Int))
        have hel : (ns.map (cluF us)).getD k2 clu0 = (ns.getD k2 0, szU (clU us (ns.getD k2 0)), clU us (ns.getD k2 0)) := by
          rw [getD_elem0 _ _ _ (by rw [List.length_map, hml.out]; exact hlt), getD_elem0 _ _ _ (by rw [hml.out]; exact hlt), List.getElem_map]
          rfl
        rw [hel] at d0 d1 d2
        rw [hv.out] at hst
        clear f sV hel
        dsimp only at d0 d1 d2
        generalize szU (clU us (ns.getD k2 0)) = z1 at *
        generalize (clU us (ns.getD k2 0)).length = nu at *
        generalize ns.getD k2 0 = z0 at *
        have hI2 := Lib.hid (hI.out.alloc (.cells #[.int .i64 z0, .int .i64 z1, .slice a1 nu c1] 141))
        have hK := Lib.hid (Blk.new wr #[.int .i64 z0, .int .i64 z1, .slice a1 nu c1] 141)
        go_upto_region 13 with (fail)
        clear d0 d1 d2 hb hI
        generalize wr.alloc (.cells #[.int .i64 z0, .int .i64 z1, .slice a1 nu c1] 141) = wj at *
        generalize wr.heap.size = bj at *
        have y2 : wj.cell? ⟨bj, 2, none⟩ = some (.slice a1 nu c1) := hK.out.cell 2
        go_wp2
        go_roundw
        case rel => exact ⟨k2 + 1, min v nu, by omega, by go_num, rfl, hst, hI2⟩
        case measure => (simp [intOf] <;> omega)
      · obtain rfl : nC = k2 := by omega
        have ex : ns.take nC = ns := by rw [← hml.out, List.take_length]
        rw [ex, hfw.out] at hv
        have hv2 := hv.out
        subst hv2
        have hId : Hid (Inv w.heap.size w φ φ2 wr.drew) := Lib.hid (hI.out.drewN 1)
        obtain ⟨y0, y1, y2, y3, y4, y5, y6⟩ := hbox.out wr hI.out.fz
        by_cases d1 : t1 < 0 ∨ (nC : Int) < t1
        · have hq3 : Hid (1 = q) := Lib.hid (by rw [← hq2.out, if_pos d1])
          have ho : Hid (outB t1 0 nC = true) := Lib.hid (by unfold outB; simp; omega)
          go_upto_region 15 with (fail)
          go_quiet ((go_at_call 83; exact Calls.quiet_of_same ((outsideZ_b t1 0 nC _ ho.out).mono (fun _ _ h => ⟨h.1, h.2.symm⟩))))
          go_wp2
          go_ret
          exact ⟨ret_int hq3.out, bdrewN hI.out.bel _⟩
        have ho : Hid (outB t1 0 nC = false) := Lib.hid (by unfold outB; simp; omega)
        have hmu := mul_bd hE (show 0 ≤ t1 by omega) (show t1 ≤ nC by omega)
        have hw : IntKind.i64.wrap (t1 * mx) = t1 * mx := IntWalk.i64_in _ (by omega)
        by_cases d3 : S < t1 * mx
        · have hq3 : Hid (1 = q) := Lib.hid (by rw [← hq2.out, if_neg d1, if_pos d3])
          have g3 : decide (t1 * mx > S) = true := decide_eq_true d3
          clear d1 d3 hmu
          go_upto_region 15 with (fail)
          obtain ⟨x0, x1, x2, x3, x4, x5, x6⟩ := hbox.out wr.drew hId.out.fz
          apply wp_region_held_drew (S := fun W => W.cell? ⟨w.heap.size, 0, none⟩ = some (.string nm) ∧ W.cell? ⟨w.heap.size, 1, none⟩ = some (.slice aU nU cU) ∧ W.cell? ⟨w.heap.size, 2, none⟩ = some (.int .i64 S) ∧ W.cell? ⟨w.heap.size, 3, none⟩ = some (.slice aC nC cC) ∧ W.cell? ⟨w.heap.size + 1, 1, none⟩ = some (.int .i64 t1) ∧ W.cell? ⟨w.heap.size + 1, 2, none⟩ = some (.int .i64 t2))
          case hm => kernel_rfl
          case hS => exact ⟨x0, x1, x2, x3, x5, x6⟩
          case h =>
          intro hHeld
          refine' wpAnyH_take (i := 0) ?hi (by kernel_rfl) (by kernel_rfl) (by kernel_rfl) ?hQ (Or.inl ⟨?hw, ?hy⟩) (by assumption) ?rest
          case hi => exact List.getElem?_toArray.trans rfl
          case hQ => exact fun _ _ _ h => h
          case hw => rfl
          case hy => ((intro w hSw; (try dsimp only at hSw); go_simp) <;> with_reducible rfl)
          case rest =>
          try simp only [Act.put, List.setIfInBounds_toArray, List.set_cons_zero, List.set_cons_succ]
          refine' wpAnyH_take (i := 1) ?hi (by kernel_rfl) (by kernel_rfl) (by kernel_rfl) ?hQ (Or.inl ⟨?hw, ?hy⟩) (by assumption) ?rest
          case hi => exact List.getElem?_toArray.trans rfl
          case hQ => exact fun _ _ _ h => h
          case hw => rfl
          case hy => ((intro w hSw; (try dsimp only at hSw); go_simp) <;> with_reducible rfl)
          case rest =>
          try simp only [Act.put, List.setIfInBounds_toArray, List.set_cons_zero, List.set_cons_succ]
          refine' wpAnyH_take (i := 2) ?hi (by kernel_rfl) (by kernel_rfl) (by kernel_rfl) ?hQ (Or.inl ⟨?hw, ?hy⟩) (by assumption) ?rest
          case hi => exact List.getElem?_toArray.trans rfl
          case hQ => exact fun _ _ _ h => h
          case hw => rfl
          case hy => ((intro w hSw; (try dsimp only at hSw); go_simp) <;> with_reducible rfl)
          case rest =>
          try simp only [Act.put, List.setIfInBounds_toArray, List.set_cons_zero, List.set_cons_succ]
          refine' wpAnyH_take (i := 3) ?hi (by kernel_rfl) (by kernel_rfl) (by kernel_rfl) ?hQ (Or.inl ⟨?hw, ?hy⟩) (by assumption) ?rest
          case hi => exact List.getElem?_toArray.trans rfl
          case hQ => exact fun _ _ _ h => h
          case hw => rfl
          case hy => ((intro w hSw; (try dsimp only at hSw); go_simp) <;> with_reducible rfl)
          case rest =>
          try simp only [Act.put, List.setIfInBounds_toArray, List.set_cons_zero, List.set_cons_succ]
          refine' wpAnyH_take (i := 4) ?hi (by kernel_rfl) (by kernel_rfl) (by kernel_rfl) ?hQ (Or.inl ⟨?hw, ?hy⟩) (by assumption) ?rest
          case hi => exact List.getElem?_toArray.trans rfl
          case hQ => exact fun _ _ _ h => h
          case hw => rfl
          case hy => ((intro w hSw; (try dsimp only at hSw); go_simp) <;> with_reducible rfl)
          case rest =>
          try simp only [Act.put, List.setIfInBounds_toArray, List.set_cons_zero, List.set_cons_succ]
          refine wpAnyH_ready (rs := [5]) (by kernel_rfl) (by simp) ?_
          refine' AllReadyH.cons ?ho (fun K hK => ?st) AllReadyH.nil
          case ho => exact List.getElem?_toArray.trans rfl
          case st =>
          go_simp
          go_at_call 83
          (with_reducible refine (outsideZ_b t1 0 nC _ ho.out).mono ?_)
          rintro e w2 ⟨rfl, rfl⟩
          dsimp only
          refine hK.out _ _ ?hSS (fun hHeld => ?hRR)
          case hSS => exact hHeld
          case hRR =>
          clear hK K
          try simp only [Act.put, List.setIfInBounds_toArray, List.set_cons_zero, List.set_cons_succ]
          refine' wpAnyH_take (i := 6) ?hi (by kernel_rfl) (by kernel_rfl) (by kernel_rfl) ?hQ (Or.inl ⟨?hw, ?hy⟩) (by assumption) ?rest
          case hi => exact List.getElem?_toArray.trans rfl
          case hQ => exact fun _ _ _ h => h
          case hw => rfl
          case hy => ((intro w hSw; (try dsimp only at hSw); go_simp) <;> with_reducible rfl)
          case rest =>
          try simp only [Act.put, List.setIfInBounds_toArray, List.set_cons_zero, List.set_cons_succ]
          refine' wpAnyH_take (i := 7) ?hi (by kernel_rfl) (by kernel_rfl) (by kernel_rfl) ?hQ (Or.inl ⟨?hw, ?hy⟩) (by assumption) ?rest
          case hi => exact List.getElem?_toArray.trans rfl
          case hQ => exact fun _ _ _ h => h
          case hw => rfl
          case hy => ((intro w hSw; (try dsimp only at hSw); go_simp) <;> with_reducible rfl)
          case rest =>
          try simp only [Act.put, List.setIfInBounds_toArray, List.set_cons_zero, List.set_cons_succ]
          refine' wpAnyH_take (i := 8) ?hi (by kernel_rfl) (by kernel_rfl) (by kernel_rfl) ?hQ (Or.inl ⟨?hw, ?hy⟩) (by assumption) ?rest
          case hi => exact List.getElem?_toArray.trans rfl
          case hQ => exact fun _ _ _ h => h
          case hw => rfl
          case hy => ((intro w hSw; (try dsimp only at hSw); go_simp) <;> with_reducible rfl)
          case rest =>
          try simp only [Act.put, List.setIfInBounds_toArray, List.set_cons_zero, List.set_cons_succ]
          refine' wpAnyH_take (i := 9) ?hi (by kernel_rfl) (by kernel_rfl) (by kernel_rfl) ?hQ (Or.inl ⟨?hw, ?hy⟩) (by assumption) ?rest
          case hi => exact List.getElem?_toArray.trans rfl
          case hQ => exact fun _ _ _ h => h
          case hw => rfl
          case hy => ((intro w hSw; (try dsimp only at hSw); go_simp) <;> with_reducible rfl)
          case rest =>
          try simp only [Act.put, List.setIfInBounds_toArray, List.set_cons_zero, List.set_cons_succ]
          refine' wpAnyH_take (i := 13) ?hi (by kernel_rfl) (by kernel_rfl) (by kernel_rfl) ?hQ (Or.inl ⟨?hw, ?hy⟩) (by assumption) ?rest
          case hi => exact List.getElem?_toArray.trans rfl
          case hQ => exact fun _ _ _ h => h
          case hw => rfl
          case hy => ((intro w hSw; (try dsimp only at hSw); go_simp) <;> with_reducible rfl)
          case rest =>
          try simp only [Act.put, List.setIfInBounds_toArray, List.set_cons_zero, List.set_cons_succ]
          refine' wpAnyH_take (i := 14) ?hi (by kernel_rfl) (by kernel_rfl) (by kernel_rfl) ?hQ (Or.inl ⟨?hw, ?hy⟩) (by assumption) ?rest
          case hi => exact List.getElem?_toArray.trans rfl
          case hQ => exact fun _ _ _ h => h
          case hw => rfl
          case hy => ((intro w hSw; (try dsimp only at hSw); go_simp) <;> with_reducible rfl)
          case rest =>
          try simp only [Act.put, List.setIfInBounds_toArray, List.set_cons_zero, List.set_cons_succ]
          refine wpAnyH_ready (rs := [10]) (by kernel_rfl) (by simp) ?_
          refine' AllReadyH.cons ?ho (fun K hK => ?st) AllReadyH.nil
          case ho => exact List.getElem?_toArray.trans rfl
          case st =>
          go_simp
          go_at_call 107
          (with_reducible refine (PclusterSizes_any hId.out.fz SC.out hcl hC5).mono ?_)
          rintro e w6 ⟨a6, c6, φ6, rfl, hi6, s6⟩
          rw [hcs.out] at s6 ⊢
          rw [hE.out.len]
          have hI6 := Lib.hid (hId.out.call hi6)
          have hI6B := Lib.hid (hId.out.callB hi6.bel)
          have S6 := Lib.hid s6
          obtain ⟨z0, z1, z2, z3, z4, z5, z6⟩ := hbox.out w6 hI6B.out.fz
          clear hi6 s6
          dsimp only
          refine hK.out _ _ ?hSS (fun hHeld => ?hRR)
          case hSS => exact ⟨z0, z1, z2, z3, z5, z6⟩
          case hRR =>
          clear hK K
          try simp only [Act.put, List.setIfInBounds_toArray, List.set_cons_zero, List.set_cons_succ]
          refine wpAnyH_ready (rs := [11]) (by kernel_rfl) (by simp) ?_
          refine' AllReadyH.cons ?ho (fun K hK => ?st) AllReadyH.nil
          case ho => exact List.getElem?_toArray.trans rfl
          case st =>
          go_simp
          go_at_call 99
          (with_reducible refine (max_q hI6.out.fz S6.out hE).mono ?_)
          rintro e w7 ⟨rfl, hw7⟩
          have hI7 : Hid (Inv w.heap.size w φ φ2 w7) := Lib.hid (by rw [hw7]; exact hI6B.out)
          clear hw7
          obtain ⟨v0, v1, v2, v3, v4, v5, v6⟩ := hbox.out w7 hI7.out.fz
          dsimp only
          refine hK.out _ _ ?hSS (fun hHeld => ?hRR)
          case hSS => exact ⟨v0, v1, v2, v3, v5, v6⟩
          case hRR =>
          clear hK K
          try simp only [Act.put, List.setIfInBounds_toArray, List.set_cons_zero, List.set_cons_succ]
          refine' wpAnyH_take (i := 12) ?hi (by kernel_rfl) (by kernel_rfl) (by kernel_rfl) ?hQ (Or.inl ⟨?hw, ?hy⟩) (by assumption) ?rest
          case hi => exact List.getElem?_toArray.trans rfl
          case hQ => exact fun _ _ _ h => h
          case hw => rfl
          case hy => ((intro w hSw; (try dsimp only at hSw); go_simp) <;> with_reducible rfl)
          case rest =>
          try simp only [Act.put, List.setIfInBounds_toArray, List.set_cons_zero, List.set_cons_succ]
          refine' wpAnyH_take (i := 15) ?hi (by kernel_rfl) (by kernel_rfl) (by kernel_rfl) ?hQ (Or.inl ⟨?hw, ?hy⟩) (by assumption) ?rest
          case hi => exact List.getElem?_toArray.trans rfl
          case hQ => exact fun _ _ _ h => h
          case hw => rfl
          case hy => ((intro w hSw; (try dsimp only at hSw); go_simp) <;> with_reducible rfl)
          case rest =>
          try simp only [Act.put, List.setIfInBounds_toArray, List.set_cons_zero, List.set_cons_succ]
          refine' wpAnyH_take (i := 16) ?hi (by kernel_rfl) (by kernel_rfl) (by kernel_rfl) ?hQ (Or.inl ⟨?hw, ?hy⟩) (by assumption) ?rest
          case hi => exact List.getElem?_toArray.trans rfl
          case hQ => exact fun _ _ _ h => h
          case hw => rfl
          case hy => ((intro w hSw; (try dsimp only at hSw); go_simp) <;> with_reducible rfl)
          case rest =>
          try simp only [Act.put, List.setIfInBounds_toArray, List.set_cons_zero, List.set_cons_succ]
          refine' wpAnyH_take (i := 17) ?hi (by kernel_rfl) (by kernel_rfl) (by kernel_rfl) ?hQ (Or.inl ⟨?hw, ?hy⟩) (by assumption) ?rest
          case hi => exact List.getElem?_toArray.trans rfl
          case hQ => exact fun _ _ _ h => h
          case hw => rfl
          case hy => ((intro w hSw; (try dsimp only at hSw); go_simp) <;> with_reducible rfl)
          case rest =>
          try simp only [Act.put, List.setIfInBounds_toArray, List.set_cons_zero, List.set_cons_succ]
          refine' wpAnyH_take (i := 18) (v := undef) ?hi (by kernel_rfl) (by kernel_rfl) (by kernel_rfl) ?hQ (Or.inr ⟨?hw, rfl⟩) (by assumption) ?rest
          case hi => exact List.getElem?_toArray.trans rfl
          case hQ => exact fun _ _ _ h => h
          case hw => rfl
          case rest =>
          try simp only [Act.put, List.setIfInBounds_toArray, List.set_cons_zero, List.set_cons_succ]
          refine' wpAnyH_take (i := 19) (v := undef) ?hi (by kernel_rfl) (by kernel_rfl) (by kernel_rfl) ?hQ (Or.inr ⟨?hw, rfl⟩) (by assumption) ?rest
          case hi => exact List.getElem?_toArray.trans rfl
          case hQ => exact fun _ _ _ h => h
          case hw => rfl
          case rest =>
          try simp only [Act.put, List.setIfInBounds_toArray, List.set_cons_zero, List.set_cons_succ]
          refine' wpAnyH_take (i := 20) (v := undef) ?hi (by kernel_rfl) (by kernel_rfl) (by kernel_rfl) ?hQ (Or.inr ⟨?hw, rfl⟩) (by assumption) ?rest
          case hi => exact List.getElem?_toArray.trans rfl
          case hQ => exact fun _ _ _ h => h
          case hw => rfl
          case rest =>
          try simp only [Act.put, List.setIfInBounds_toArray, List.set_cons_zero, List.set_cons_succ]
          refine' wpAnyH_take (i := 21) (v := undef) ?hi (by kernel_rfl) (by kernel_rfl) (by kernel_rfl) ?hQ (Or.inr ⟨?hw, rfl⟩) (by assumption) ?rest
          case hi => exact List.getElem?_toArray.trans rfl
          case hQ => exact fun _ _ _ h => h
          case hw => rfl
          case rest =>
          try simp only [Act.put, List.setIfInBounds_toArray, List.set_cons_zero, List.set_cons_succ]
          refine wpAnyH_ready (rs := [22]) (by kernel_rfl) (by simp) ?_
          refine' AllReadyH.cons ?ho (fun K hK => ?st) AllReadyH.nil
          case ho => exact List.getElem?_toArray.trans rfl
          case st =>
          go_simp
          refine hK.out _ _ ?hSS (fun hHeld => ?hRR)
          case hSS => exact ⟨v0, v1, v2, v3, v5, v6⟩
          case hRR =>
          clear hK K
          try simp only [Act.put, List.setIfInBounds_toArray, List.set_cons_zero, List.set_cons_succ]
          refine wpAnyH_done (by kernel_rfl) ?_ _
          go_wp2
          go_ret
          exact ⟨ret_int hq3.out, hI7.out.bel⟩
        have hq4 := Lib.hid hq2.out
        rw [if_neg d1, if_neg d3] at hq4
        have g3 : decide (t1 * mx > S) = false := decide_eq_false d3
        by_cases d4 : t2 < 1 ∨ fw < t2
        · have hq3 : Hid (1 = q) := Lib.hid (by rw [← hq4.out, if_pos d4])
          have ho2 : Hid (outB t2 1 fw = true) := Lib.hid (by unfold outB; simp; omega)
          clear d1 d3 hmu d4
          go_upto_region 15 with (fail)
          obtain ⟨x0, x1, x2, x3, x4, x5, x6⟩ := hbox.out wr.drew hId.out.fz
          apply wp_region_held_drew (S := fun W => W.cell? ⟨w.heap.size, 0, none⟩ = some (.string nm) ∧ W.cell? ⟨w.heap.size, 1, none⟩ = some (.slice aU nU cU) ∧ W.cell? ⟨w.heap.size, 2, none⟩ = some (.int .i64 S) ∧ W.cell? ⟨w.heap.size, 3, none⟩ = some (.slice aC nC cC) ∧ W.cell? ⟨w.heap.size + 1, 1, none⟩ = some (.int .i64 t1) ∧ W.cell? ⟨w.heap.size + 1, 2, none⟩ = some (.int .i64 t2))
          case hm => kernel_rfl
          case hS => exact ⟨x0, x1, x2, x3, x5, x6⟩
          case h =>
          intro hHeld
          refine' wpAnyH_take (i := 0) ?hi (by kernel_rfl) (by kernel_rfl) (by kernel_rfl) ?hQ (Or.inl ⟨?hw, ?hy⟩) (by assumption) ?rest
          case hi => exact List.getElem?_toArray.trans rfl
          case hQ => exact fun _ _ _ h => h
          case hw => rfl
          case hy => ((intro w hSw; (try dsimp only at hSw); go_simp) <;> with_reducible rfl)
          case rest =>
          try simp only [Act.put, List.setIfInBounds_toArray, List.set_cons_zero, List.set_cons_succ]
          refine' wpAnyH_take (i := 1) ?hi (by kernel_rfl) (by kernel_rfl) (by kernel_rfl) ?hQ (Or.inl ⟨?hw, ?hy⟩) (by assumption) ?rest
          case hi => exact List.getElem?_toArray.trans rfl
          case hQ => exact fun _ _ _ h => h
          case hw => rfl
          case hy => ((intro w hSw; (try dsimp only at hSw); go_simp) <;> with_reducible rfl)
          case rest =>
          try simp only [Act.put, List.setIfInBounds_toArray, List.set_cons_zero, List.set_cons_succ]
          refine' wpAnyH_take (i := 2) ?hi (by kernel_rfl) (by kernel_rfl) (by kernel_rfl) ?hQ (Or.inl ⟨?hw, ?hy⟩) (by assumption) ?rest
          case hi => exact List.getElem?_toArray.trans rfl
          case hQ => exact fun _ _ _ h => h
          case hw => rfl
          case hy => ((intro w hSw; (try dsimp only at hSw); go_simp) <;> with_reducible rfl)
          case rest =>
          try simp only [Act.put, List.setIfInBounds_toArray, List.set_cons_zero, List.set_cons_succ]
          refine' wpAnyH_take (i := 3) ?hi (by kernel_rfl) (by kernel_rfl) (by kernel_rfl) ?hQ (Or.inl ⟨?hw, ?hy⟩) (by assumption) ?rest
          case hi => exact List.getElem?_toArray.trans rfl
          case hQ => exact fun _ _ _ h => h
          case hw => rfl
          case hy => ((intro w hSw; (try dsimp only at hSw); go_simp) <;> with_reducible rfl)
          case rest =>
          try simp only [Act.put, List.setIfInBounds_toArray, List.set_cons_zero, List.set_cons_succ]
          refine' wpAnyH_take (i := 4) ?hi (by kernel_rfl) (by kernel_rfl) (by kernel_rfl) ?hQ (Or.inl ⟨?hw, ?hy⟩) (by assumption) ?rest
          case hi => exact List.getElem?_toArray.trans rfl
          case hQ => exact fun _ _ _ h => h
          case hw => rfl
          case hy => ((intro w hSw; (try dsimp only at hSw); go_simp) <;> with_reducible rfl)
          case rest =>
          try simp only [Act.put, List.setIfInBounds_toArray, List.set_cons_zero, List.set_cons_succ]
          refine wpAnyH_ready (rs := [5]) (by kernel_rfl) (by simp) ?_
          refine' AllReadyH.cons ?ho (fun K hK => ?st) AllReadyH.nil
          case ho => exact List.getElem?_toArray.trans rfl
          case st =>
          go_simp
          go_at_call 83
          (with_reducible refine (outsideZ_b t1 0 nC _ ho.out).mono ?_)
          rintro e w2 ⟨rfl, rfl⟩
          dsimp only
          refine hK.out _ _ ?hSS (fun hHeld => ?hRR)
          case hSS => exact hHeld
          case hRR =>
          clear hK K
          try simp only [Act.put, List.setIfInBounds_toArray, List.set_cons_zero, List.set_cons_succ]
          refine' wpAnyH_take (i := 6) ?hi (by kernel_rfl) (by kernel_rfl) (by kernel_rfl) ?hQ (Or.inl ⟨?hw, ?hy⟩) (by assumption) ?rest
          case hi => exact List.getElem?_toArray.trans rfl
          case hQ => exact fun _ _ _ h => h
          case hw => rfl
          case hy => ((intro w hSw; (try dsimp only at hSw); go_simp) <;> with_reducible rfl)
          case rest =>
          try simp only [Act.put, List.setIfInBounds_toArray, List.set_cons_zero, List.set_cons_succ]
          refine' wpAnyH_take (i := 7) ?hi (by kernel_rfl) (by kernel_rfl) (by kernel_rfl) ?hQ (Or.inl ⟨?hw, ?hy⟩) (by assumption) ?rest
          case hi => exact List.getElem?_toArray.trans rfl
          case hQ => exact fun _ _ _ h => h
          case hw => rfl
          case hy => ((intro w hSw; (try dsimp only at hSw); go_simp) <;> with_reducible rfl)
          case rest =>
          try simp only [Act.put, List.setIfInBounds_toArray, List.set_cons_zero, List.set_cons_succ]
          refine' wpAnyH_take (i := 8) ?hi (by kernel_rfl) (by kernel_rfl) (by kernel_rfl) ?hQ (Or.inl ⟨?hw, ?hy⟩) (by assumption) ?rest
          case hi => exact List.getElem?_toArray.trans rfl
          case hQ => exact fun _ _ _ h => h
          case hw => rfl
          case hy => ((intro w hSw; (try dsimp only at hSw); go_simp) <;> with_reducible rfl)
          case rest =>
          try simp only [Act.put, List.setIfInBounds_toArray, List.set_cons_zero, List.set_cons_succ]
          refine' wpAnyH_take (i := 9) ?hi (by kernel_rfl) (by kernel_rfl) (by kernel_rfl) ?hQ (Or.inl ⟨?hw, ?hy⟩) (by assumption) ?rest
          case hi => exact List.getElem?_toArray.trans rfl
          case hQ => exact fun _ _ _ h => h
          case hw => rfl
          case hy => ((intro w hSw; (try dsimp only at hSw); go_simp) <;> with_reducible rfl)
          case rest =>
          try simp only [Act.put, List.setIfInBounds_toArray, List.set_cons_zero, List.set_cons_succ]
          refine' wpAnyH_take (i := 13) ?hi (by kernel_rfl) (by kernel_rfl) (by kernel_rfl) ?hQ (Or.inl ⟨?hw, ?hy⟩) (by assumption) ?rest
          case hi => exact List.getElem?_toArray.trans rfl
          case hQ => exact fun _ _ _ h => h
          case hw => rfl
          case hy => ((intro w hSw; (try dsimp only at hSw); go_simp) <;> with_reducible rfl)
          case rest =>
          try simp only [Act.put, List.setIfInBounds_toArray, List.set_cons_zero, List.set_cons_succ]
          refine' wpAnyH_take (i := 14) ?hi (by kernel_rfl) (by kernel_rfl) (by kernel_rfl) ?hQ (Or.inl ⟨?hw, ?hy⟩) (by assumption) ?rest
          case hi => exact List.getElem?_toArray.trans rfl
          case hQ => exact fun _ _ _ h => h
          case hw => rfl
          case hy => ((intro w hSw; (try dsimp only at hSw); go_simp) <;> with_reducible rfl)
          case rest =>
          try simp only [Act.put, List.setIfInBounds_toArray, List.set_cons_zero, List.set_cons_succ]
          refine wpAnyH_ready (rs := [10]) (by kernel_rfl) (by simp) ?_
          refine' AllReadyH.cons ?ho (fun K hK => ?st) AllReadyH.nil
          case ho => exact List.getElem?_toArray.trans rfl
          case st =>
          go_simp
          go_at_call 107
          (with_reducible refine (PclusterSizes_any hId.out.fz SC.out hcl hC5).mono ?_)
          rintro e w6 ⟨a6, c6, φ6, rfl, hi6, s6⟩
          rw [hcs.out] at s6 ⊢
          rw [hE.out.len]
          have hI6 := Lib.hid (hId.out.call hi6)
          have hI6B := Lib.hid (hId.out.callB hi6.bel)
          have S6 := Lib.hid s6
          obtain ⟨z0, z1, z2, z3, z4, z5, z6⟩ := hbox.out w6 hI6B.out.fz
          clear hi6 s6
          dsimp only
          refine hK.out _ _ ?hSS (fun hHeld => ?hRR)
          case hSS => exact ⟨z0, z1, z2, z3, z5, z6⟩
          case hRR =>
          clear hK K
          try simp only [Act.put, List.setIfInBounds_toArray, List.set_cons_zero, List.set_cons_succ]
          refine wpAnyH_ready (rs := [11]) (by kernel_rfl) (by simp) ?_
          refine' AllReadyH.cons ?ho (fun K hK => ?st) AllReadyH.nil
          case ho => exact List.getElem?_toArray.trans rfl
          case st =>
          go_simp
          go_at_call 99
          (with_reducible refine (max_q hI6.out.fz S6.out hE).mono ?_)
          rintro e w7 ⟨rfl, hw7⟩
          have hI7 : Hid (Inv w.heap.size w φ φ2 w7) := Lib.hid (by rw [hw7]; exact hI6B.out)
          clear hw7
          obtain ⟨v0, v1, v2, v3, v4, v5, v6⟩ := hbox.out w7 hI7.out.fz
          dsimp only
          refine hK.out _ _ ?hSS (fun hHeld => ?hRR)
          case hSS => exact ⟨v0, v1, v2, v3, v5, v6⟩
          case hRR =>
          clear hK K
          try simp only [Act.put, List.setIfInBounds_toArray, List.set_cons_zero, List.set_cons_succ]
          refine' wpAnyH_take (i := 12) ?hi (by kernel_rfl) (by kernel_rfl) (by kernel_rfl) ?hQ (Or.inl ⟨?hw, ?hy⟩) (by assumption) ?rest
          case hi => exact List.getElem?_toArray.trans rfl
          case hQ => exact fun _ _ _ h => h
          case hw => rfl
          case hy => ((intro w hSw; (try dsimp only at hSw); go_simp) <;> with_reducible rfl)
          case rest =>
          try simp only [Act.put, List.setIfInBounds_toArray, List.set_cons_zero, List.set_cons_succ]
          refine' wpAnyH_take (i := 15) ?hi (by kernel_rfl) (by kernel_rfl) (by kernel_rfl) ?hQ (Or.inl ⟨?hw, ?hy⟩) (by assumption) ?rest
          case hi => exact List.getElem?_toArray.trans rfl
          case hQ => exact fun _ _ _ h => h
          case hw => rfl
          case hy => ((intro w hSw; (try dsimp only at hSw); go_simp) <;> with_reducible rfl)
          case rest =>
          try simp only [Act.put, List.setIfInBounds_toArray, List.set_cons_zero, List.set_cons_succ]
          refine' wpAnyH_take (i := 16) ?hi (by kernel_rfl) (by kernel_rfl) (by kernel_rfl) ?hQ (Or.inl ⟨?hw, ?hy⟩) (by assumption) ?rest
          case hi => exact List.getElem?_toArray.trans rfl
          case hQ => exact fun _ _ _ h => h
          case hw => rfl
          case hy => ((intro w hSw; (try dsimp only at hSw); go_simp) <;> with_reducible rfl)
          case rest =>
          try simp only [Act.put, List.setIfInBounds_toArray, List.set_cons_zero, List.set_cons_succ]
          refine' wpAnyH_take (i := 17) ?hi (by kernel_rfl) (by kernel_rfl) (by kernel_rfl) ?hQ (Or.inl ⟨?hw, ?hy⟩) (by assumption) ?rest
          case hi => exact List.getElem?_toArray.trans rfl
          case hQ => exact fun _ _ _ h => h
          case hw => rfl
          case hy => ((intro w hSw; (try dsimp only at hSw); go_simp) <;> with_reducible rfl)
          case rest =>
          try simp only [Act.put, List.setIfInBounds_toArray, List.set_cons_zero, List.set_cons_succ]
          refine' wpAnyH_take (i := 18) ?hi (by kernel_rfl) (by kernel_rfl) (by kernel_rfl) ?hQ (Or.inl ⟨?hw, ?hy⟩) (by assumption) ?rest
          case hi => exact List.getElem?_toArray.trans rfl
          case hQ => exact fun _ _ _ h => h
          case hw => rfl
          case hy => ((intro w hSw; (try dsimp only at hSw); go_simp) <;> with_reducible rfl)
          case rest =>
          try simp only [Act.put, List.setIfInBounds_toArray, List.set_cons_zero, List.set_cons_succ]
          refine' wpAnyH_take (i := 19) ?hi (by kernel_rfl) (by kernel_rfl) (by kernel_rfl) ?hQ (Or.inl ⟨?hw, ?hy⟩) (by assumption) ?rest
          case hi => exact List.getElem?_toArray.trans rfl
          case hQ => exact fun _ _ _ h => h
          case hw => rfl
          case hy => ((intro w hSw; (try dsimp only at hSw); go_simp) <;> with_reducible rfl)
          case rest =>
          try simp only [Act.put, List.setIfInBounds_toArray, List.set_cons_zero, List.set_cons_succ]
          refine' wpAnyH_take (i := 20) ?hi (by kernel_rfl) (by kernel_rfl) (by kernel_rfl) ?hQ (Or.inl ⟨?hw, ?hy⟩) (by assumption) ?rest
          case hi => exact List.getElem?_toArray.trans rfl
          case hQ => exact fun _ _ _ h => h
          case hw => rfl
          case hy => ((intro w hSw; (try dsimp only at hSw); go_simp) <;> with_reducible rfl)
          case rest =>
          try simp only [Act.put, List.setIfInBounds_toArray, List.set_cons_zero, List.set_cons_succ]
          refine wpAnyH_ready (rs := [21]) (by kernel_rfl) (by simp) ?_
          refine' AllReadyH.cons ?ho (fun K hK => ?st) AllReadyH.nil
          case ho => exact List.getElem?_toArray.trans rfl
          case st =>
          go_simp
          go_at_call 83
          (with_reducible refine (outsideZ_b t2 1 fw _ ho2.out).mono ?_)
          rintro e w2 ⟨rfl, rfl⟩
          dsimp only
          refine hK.out _ _ ?hSS (fun hHeld => ?hRR)
          case hSS => exact hHeld
          case hRR =>
          clear hK K
          try simp only [Act.put, List.setIfInBounds_toArray, List.set_cons_zero, List.set_cons_succ]
          refine wpAnyH_ready (rs := [22]) (by kernel_rfl) (by simp) ?_
          refine' AllReadyH.cons ?ho (fun K hK => ?st) AllReadyH.nil
          case ho => exact List.getElem?_toArray.trans rfl
          case st =>
          go_simp
          refine hK.out _ _ ?hSS (fun hHeld => ?hRR)
          case hSS => exact ⟨v0, v1, v2, v3, v5, v6⟩
          case hRR =>
          clear hK K
          try simp only [Act.put, List.setIfInBounds_toArray, List.set_cons_zero, List.set_cons_succ]
          refine wpAnyH_done (by kernel_rfl) ?_ _
          go_wp2
          go_ret
          exact ⟨ret_int hq3.out, hI7.out.bel⟩
        · have hq3 : Hid (0 = q) := Lib.hid (by rw [← hq4.out, if_neg d4])
          have ho2 : Hid (outB t2 1 fw = false) := Lib.hid (by unfold outB; simp; omega)
          clear d1 d3 hmu d4
          go_upto_region 15 with (fail)
          obtain ⟨x0, x1, x2, x3, x4, x5, x6⟩ := hbox.out wr.drew hId.out.fz
          apply wp_region_held_drew (S := fun W => W.cell? ⟨w.heap.size, 0, none⟩ = some (.string nm) ∧ W.cell? ⟨w.heap.size, 1, none⟩ = some (.slice aU nU cU) ∧ W.cell? ⟨w.heap.size, 2, none⟩ = some (.int .i64 S) ∧ W.cell? ⟨w.heap.size, 3, none⟩ = some (.slice aC nC cC) ∧ W.cell? ⟨w.heap.size + 1, 1, none⟩ = some (.int .i64 t1) ∧ W.cell? ⟨w.heap.size + 1, 2, none⟩ = some (.int .i64 t2))
          case hm => kernel_rfl
          case hS => exact ⟨x0, x1, x2, x3, x5, x6⟩
          case h =>
          intro hHeld
          refine' wpAnyH_take (i := 0) ?hi (by kernel_rfl) (by kernel_rfl) (by kernel_rfl) ?hQ (Or.inl ⟨?hw, ?hy⟩) (by assumption) ?rest
          case hi => exact List.getElem?_toArray.trans rfl
          case hQ => exact fun _ _ _ h => h
          case hw => rfl
          case hy => ((intro w hSw; (try dsimp only at hSw); go_simp) <;> with_reducible rfl)
          case rest =>
          try simp only [Act.put, List.setIfInBounds_toArray, List.set_cons_zero, List.set_cons_succ]
          refine' wpAnyH_take (i := 1) ?hi (by kernel_rfl) (by kernel_rfl) (by kernel_rfl) ?hQ (Or.inl ⟨?hw, ?hy⟩) (by assumption) ?rest
          case hi => exact List.getElem?_toArray.trans rfl
          case hQ => exact fun _ _ _ h => h
          case hw => rfl
          case hy => ((intro w hSw; (try dsimp only at hSw); go_simp) <;> with_reducible rfl)
          case rest =>
          try simp only [Act.put, List.setIfInBounds_toArray, List.set_cons_zero, List.set_cons_succ]
          refine' wpAnyH_take (i := 2) ?hi (by kernel_rfl) (by kernel_rfl) (by kernel_rfl) ?hQ (Or.inl ⟨?hw, ?hy⟩) (by assumption) ?rest
          case hi => exact List.getElem?_toArray.trans rfl
          case hQ => exact fun _ _ _ h => h
          case hw => rfl
          case hy => ((intro w hSw; (try dsimp only at hSw); go_simp) <;> with_reducible rfl)
          case rest =>
          try simp only [Act.put, List.setIfInBounds_toArray, List.set_cons_zero, List.set_cons_succ]
          refine' wpAnyH_take (i := 3) ?hi (by kernel_rfl) (by kernel_rfl) (by kernel_rfl) ?hQ (Or.inl ⟨?hw, ?hy⟩) (by assumption) ?rest
          case hi => exact List.getElem?_toArray.trans rfl
          case hQ => exact fun _ _ _ h => h
          case hw => rfl
          case hy => ((intro w hSw; (try dsimp only at hSw); go_simp) <;> with_reducible rfl)
          case rest =>
          try simp only [Act.put, List.setIfInBounds_toArray, List.set_cons_zero, List.set_cons_succ]
          refine' wpAnyH_take (i := 4) ?hi (by kernel_rfl) (by kernel_rfl) (by kernel_rfl) ?hQ (Or.inl ⟨?hw, ?hy⟩) (by assumption) ?rest
          case hi => exact List.getElem?_toArray.trans rfl
          case hQ => exact fun _ _ _ h => h
          case hw => rfl
          case hy => ((intro w hSw; (try dsimp only at hSw); go_simp) <;> with_reducible rfl)
          case rest =>
          try simp only [Act.put, List.setIfInBounds_toArray, List.set_cons_zero, List.set_cons_succ]
          refine wpAnyH_ready (rs := [5]) (by kernel_rfl) (by simp) ?_
          refine' AllReadyH.cons ?ho (fun K hK => ?st) AllReadyH.nil
          case ho => exact List.getElem?_toArray.trans rfl
          case st =>
          go_simp
          go_at_call 83
          (with_reducible refine (outsideZ_b t1 0 nC _ ho.out).mono ?_)
          rintro e w2 ⟨rfl, rfl⟩
          dsimp only
          refine hK.out _ _ ?hSS (fun hHeld => ?hRR)
          case hSS => exact hHeld
          case hRR =>
          clear hK K
          try simp only [Act.put, List.setIfInBounds_toArray, List.set_cons_zero, List.set_cons_succ]
          refine' wpAnyH_take (i := 6) ?hi (by kernel_rfl) (by kernel_rfl) (by kernel_rfl) ?hQ (Or.inl ⟨?hw, ?hy⟩) (by assumption) ?rest
          case hi => exact List.getElem?_toArray.trans rfl
          case hQ => exact fun _ _ _ h => h
          case hw => rfl
          case hy => ((intro w hSw; (try dsimp only at hSw); go_simp) <;> with_reducible rfl)
          case rest =>
          try simp only [Act.put, List.setIfInBounds_toArray, List.set_cons_zero, List.set_cons_succ]
          refine' wpAnyH_take (i := 7) ?hi (by kernel_rfl) (by kernel_rfl) (by kernel_rfl) ?hQ (Or.inl ⟨?hw, ?hy⟩) (by assumption) ?rest
          case hi => exact List.getElem?_toArray.trans rfl
          case hQ => exact fun _ _ _ h => h
          case hw => rfl
          case hy => ((intro w hSw; (try dsimp only at hSw); go_simp) <;> with_reducible rfl)
          case rest =>
          try simp only [Act.put, List.setIfInBounds_toArray, List.set_cons_zero, List.set_cons_succ]
          refine' wpAnyH_take (i := 8) ?hi (by kernel_rfl) (by kernel_rfl) (by kernel_rfl) ?hQ (Or.inl ⟨?hw, ?hy⟩) (by assumption) ?rest
          case hi => exact List.getElem?_toArray.trans rfl
          case hQ => exact fun _ _ _ h => h
          case hw => rfl
          case hy => ((intro w hSw; (try dsimp only at hSw); go_simp) <;> with_reducible rfl)
          case rest =>
          try simp only [Act.put, List.setIfInBounds_toArray, List.set_cons_zero, List.set_cons_succ]
          refine' wpAnyH_take (i := 9) ?hi (by kernel_rfl) (by kernel_rfl) (by kernel_rfl) ?hQ (Or.inl ⟨?hw, ?hy⟩) (by assumption) ?rest
          case hi => exact List.getElem?_toArray.trans rfl
          case hQ => exact fun _ _ _ h => h
          case hw => rfl
          case hy => ((intro w hSw; (try dsimp only at hSw); go_simp) <;> with_reducible rfl)
          case rest =>
          try simp only [Act.put, List.setIfInBounds_toArray, List.set_cons_zero, List.set_cons_succ]
          refine' wpAnyH_take (i := 13) ?hi (by kernel_rfl) (by kernel_rfl) (by kernel_rfl) ?hQ (Or.inl ⟨?hw, ?hy⟩) (by assumption) ?rest
          case hi => exact List.getElem?_toArray.trans rfl
          case hQ => exact fun _ _ _ h => h
          case hw => rfl
          case hy => ((intro w hSw; (try dsimp only at hSw); go_simp) <;> with_reducible rfl)
          case rest =>
          try simp only [Act.put, List.setIfInBounds_toArray, List.set_cons_zero, List.set_cons_succ]
          refine' wpAnyH_take (i := 14) ?hi (by kernel_rfl) (by kernel_rfl) (by kernel_rfl) ?hQ (Or.inl ⟨?hw, ?hy⟩) (by assumption) ?rest
          case hi => exact List.getElem?_toArray.trans rfl
          case hQ => exact fun _ _ _ h => h
          case hw => rfl
          case hy => ((intro w hSw; (try dsimp only at hSw); go_simp) <;> with_reducible rfl)
          case rest =>
          try simp only [Act.put, List.setIfInBounds_toArray, List.set_cons_zero, List.set_cons_succ]
          refine wpAnyH_ready (rs := [10]) (by kernel_rfl) (by simp) ?_
          refine' AllReadyH.cons ?ho (fun K hK => ?st) AllReadyH.nil
          case ho => exact List.getElem?_toArray.trans rfl
          case st =>
          go_simp
          go_at_call 107
          (with_reducible refine (PclusterSizes_any hId.out.fz SC.out hcl hC5).mono ?_)
          rintro e w6 ⟨a6, c6, φ6, rfl, hi6, s6⟩
          rw [hcs.out] at s6 ⊢
          rw [hE.out.len]
          have hI6 := Lib.hid (hId.out.call hi6)
          have hI6B := Lib.hid (hId.out.callB hi6.bel)
          have S6 := Lib.hid s6
          obtain ⟨z0, z1, z2, z3, z4, z5, z6⟩ := hbox.out w6 hI6B.out.fz
          clear hi6 s6
          dsimp only
          refine hK.out _ _ ?hSS (fun hHeld => ?hRR)
          case hSS => exact ⟨z0, z1, z2, z3, z5, z6⟩
          case hRR =>
          clear hK K
          try simp only [Act.put, List.setIfInBounds_toArray, List.set_cons_zero, List.set_cons_succ]
          refine wpAnyH_ready (rs := [11]) (by kernel_rfl) (by simp) ?_
          refine' AllReadyH.cons ?ho (fun K hK => ?st) AllReadyH.nil
          case ho => exact List.getElem?_toArray.trans rfl
          case st =>
          go_simp
          go_at_call 99
          (with_reducible refine (max_q hI6.out.fz S6.out hE).mono ?_)
          rintro e w7 ⟨rfl, hw7⟩
          have hI7 : Hid (Inv w.heap.size w φ φ2 w7) := Lib.hid (by rw [hw7]; exact hI6B.out)
          clear hw7
          obtain ⟨v0, v1, v2, v3, v4, v5, v6⟩ := hbox.out w7 hI7.out.fz
          dsimp only
          refine hK.out _ _ ?hSS (fun hHeld => ?hRR)
          case hSS => exact ⟨v0, v1, v2, v3, v5, v6⟩
          case hRR =>
          clear hK K
          try simp only [Act.put, List.setIfInBounds_toArray, List.set_cons_zero, List.set_cons_succ]
          refine' wpAnyH_take (i := 12) ?hi (by kernel_rfl) (by kernel_rfl) (by kernel_rfl) ?hQ (Or.inl ⟨?hw, ?hy⟩) (by assumption) ?rest
          case hi => exact List.getElem?_toArray.trans rfl
          case hQ => exact fun _ _ _ h => h
          case hw => rfl
          case hy => ((intro w hSw; (try dsimp only at hSw); go_simp) <;> with_reducible rfl)
          case rest =>
          try simp only [Act.put, List.setIfInBounds_toArray, List.set_cons_zero, List.set_cons_succ]
          refine' wpAnyH_take (i := 15) ?hi (by kernel_rfl) (by kernel_rfl) (by kernel_rfl) ?hQ (Or.inl ⟨?hw, ?hy⟩) (by assumption) ?rest
          case hi => exact List.getElem?_toArray.trans rfl
          case hQ => exact fun _ _ _ h => h
          case hw => rfl
          case hy => ((intro w hSw; (try dsimp only at hSw); go_simp) <;> with_reducible rfl)
          case rest =>
          try simp only [Act.put, List.setIfInBounds_toArray, List.set_cons_zero, List.set_cons_succ]
          refine' wpAnyH_take (i := 16) ?hi (by kernel_rfl) (by kernel_rfl) (by kernel_rfl) ?hQ (Or.inl ⟨?hw, ?hy⟩) (by assumption) ?rest
          case hi => exact List.getElem?_toArray.trans rfl
          case hQ => exact fun _ _ _ h => h
          case hw => rfl
          case hy => ((intro w hSw; (try dsimp only at hSw); go_simp) <;> with_reducible rfl)
          case rest =>
          try simp only [Act.put, List.setIfInBounds_toArray, List.set_cons_zero, List.set_cons_succ]
          refine' wpAnyH_take (i := 17) ?hi (by kernel_rfl) (by kernel_rfl) (by kernel_rfl) ?hQ (Or.inl ⟨?hw, ?hy⟩) (by assumption) ?rest
          case hi => exact List.getElem?_toArray.trans rfl
          case hQ => exact fun _ _ _ h => h
          case hw => rfl
          case hy => ((intro w hSw; (try dsimp only at hSw); go_simp) <;> with_reducible rfl)
          case rest =>
          try simp only [Act.put, List.setIfInBounds_toArray, List.set_cons_zero, List.set_cons_succ]
          refine' wpAnyH_take (i := 18) ?hi (by kernel_rfl) (by kernel_rfl) (by kernel_rfl) ?hQ (Or.inl ⟨?hw, ?hy⟩) (by assumption) ?rest
          case hi => exact List.getElem?_toArray.trans rfl
          case hQ => exact fun _ _ _ h => h
          case hw => rfl
          case hy => ((intro w hSw; (try dsimp only at hSw); go_simp) <;> with_reducible rfl)
          case rest =>
          try simp only [Act.put, List.setIfInBounds_toArray, List.set_cons_zero, List.set_cons_succ]
          refine' wpAnyH_take (i := 19) ?hi (by kernel_rfl) (by kernel_rfl) (by kernel_rfl) ?hQ (Or.inl ⟨?hw, ?hy⟩) (by assumption) ?rest
          case hi => exact List.getElem?_toArray.trans rfl
          case hQ => exact fun _ _ _ h => h
          case hw => rfl
          case hy => ((intro w hSw; (try dsimp only at hSw); go_simp) <;> with_reducible rfl)
          case rest =>
          try simp only [Act.put, List.setIfInBounds_toArray, List.set_cons_zero, List.set_cons_succ]
          refine' wpAnyH_take (i := 20) ?hi (by kernel_rfl) (by kernel_rfl) (by kernel_rfl) ?hQ (Or.inl ⟨?hw, ?hy⟩) (by assumption) ?rest
          case hi => exact List.getElem?_toArray.trans rfl
          case hQ => exact fun _ _ _ h => h
          case hw => rfl
          case hy => ((intro w hSw; (try dsimp only at hSw); go_simp) <;> with_reducible rfl)
          case rest =>
          try simp only [Act.put, List.setIfInBounds_toArray, List.set_cons_zero, List.set_cons_succ]
          refine wpAnyH_ready (rs := [21]) (by kernel_rfl) (by simp) ?_
          refine' AllReadyH.cons ?ho (fun K hK => ?st) AllReadyH.nil
          case ho => exact List.getElem?_toArray.trans rfl
          case st =>
          go_simp
          go_at_call 83
          (with_reducible refine (outsideZ_b t2 1 fw _ ho2.out).mono ?_)
          rintro e w2 ⟨rfl, rfl⟩
          dsimp only
          refine hK.out _ _ ?hSS (fun hHeld => ?hRR)
          case hSS => exact hHeld
          case hRR =>
          clear hK K
          try simp only [Act.put, List.setIfInBounds_toArray, List.set_cons_zero, List.set_cons_succ]
          refine wpAnyH_ready (rs := [22]) (by kernel_rfl) (by simp) ?_
          refine' AllReadyH.cons ?ho (fun K hK => ?st) AllReadyH.nil
          case ho => exact List.getElem?_toArray.trans rfl
          case st =>
          go_simp
          refine hK.out _ _ ?hSS (fun hHeld => ?hRR)
          case hSS => exact ⟨v0, v1, v2, v3, v5, v6⟩
          case hRR =>
          clear hK K
          try simp only [Act.put, List.setIfInBounds_toArray, List.set_cons_zero, List.set_cons_succ]
          refine wpAnyH_done (by kernel_rfl) ?_ _
          go_wp2
          go_ret
          exact ⟨ret_int hq3.out, hI7.out.bel⟩
end Go.Proofs.YtnlhalnjbkpdnaaGreatDoor

namespace Go.Proofs.YtnlhalnjbkpdnaaGreatDoor
open Go.RowKit Go.Sort
set_option linter.unusedVariables false
set_option linter.unusedSimpArgs false
set_option maxHeartbeats 1000000 in
theorem planOf1_b {w : World} {s nm : ByteArray} {t1 t2 S : Int} {a1 a2 : Option Addr} {n1 c1 n2 c2 : Nat} {b : Bool} (h : (s.toList == nm.toList) = b) :
    Calls Tryz.prog 85 #[.agg #[.string s, .int .i64 t1, .int .i64 t2], .agg #[.string nm, .slice a1 n1 c1, .int .i64 S, .slice a2 n2 c2]] w (fun e w' => e = .returned (.bool b) ∧ Below w.heap.size w w') := by
  have hb := ((Below.refl w.heap.size w).alloc (Nat.le_refl _) (.cells #[.string s, .int .i64 t1, .int .i64 t2] 73))
  have hB := Lib.hid (hb.alloc hb.size (.cells #[.string nm, .slice a1 n1 c1, .int .i64 S, .slice a2 n2 c2] 137))
  clear hb
  go_enter Tryz.func85, Tryz.ntmps85
  go_wp2
  go_ret
  exact ⟨rfl, hB.out⟩
set_option maxHeartbeats 1000000 in
theorem EqualTL_b {w : World} {aT aL : Option Addr} {nT cT nL cL : Nat} {ts : List Tak} {ls : List Lyr} {φ : Phi} (hφ : Fz φ w) (sT : SlV φ aT cT ts) (hnT : Hid (ts.length = nT)) (hmT : nT ≤ 9223372036854775807) (sL : SlV φ aL cL ls) (hnL : Hid (ls.length = nL)) {b : Bool} (hb : Hid (decide (ts.map (·.1) = ls.map (·.1)) = b)) :
    Calls Tryz.prog 84 #[.slice aT nT cT, .slice aL nL cL, .func (.func 85) #[] #[]] w (fun e w' => e = .returned (.bool b) ∧ Below w.heap.size w w') := by
  obtain ⟨ns, hns⟩ : ∃ ns, Hid (ls.map (·.1) = ns) := ⟨_, Lib.hid rfl⟩
  have hml : Hid (ns.length = nL) := Lib.hid (by rw [← hns.out, List.length_map, hnL.out])
  rw [hns.out] at hb
  by_cases hmt : nT = nL
  case neg =>
    have g3 : ((nT : Int) != (nL : Int)) = true := by simp; omega
    have hq : Hid (false = b) := Lib.hid (by
      rw [← hb.out]
      refine (decide_eq_false ?_).symm
      intro e
      have := congrArg List.length e
      rw [List.length_map, hnT.out, hml.out] at this
      exact hmt this)
    clear hmt
    go_enter Tryz.func84, Tryz.ntmps84
    go_wp2
    go_ret
    exact ⟨ret_bool hq.out, Below.refl _ _⟩
  subst hmt
  have g3 : ((nT : Int) != (nT : Int)) = false := by simp
  go_enter Tryz.func84, Tryz.ntmps84
  go_wp2
  clear g3
  go_loopw [17] (fun i wr => ∃ k : Nat, k ≤ nT ∧ i = .int .i64 k ∧ Hid (∀ j, j < k → (ts.getD j tak0).1 = ns.getD j ByteArray.empty) ∧ Hid (Below w.heap.size w wr)) (fun i _ => nT - (intOf i).toNat)
  case atStart => exact ⟨0, Nat.zero_le _, rfl, Lib.hid (fun j hj => by omega), Lib.hid (Below.refl _ _)⟩
  case round =>
    obtain ⟨k, hk, rfl, hsame, hB⟩ := hrel
    by_cases hlt : k < nT
    · obtain ⟨b1, o1, rfl, f1⟩ := sT.takD hnT hlt
      obtain ⟨hbb, c0, c1, c2⟩ := f1 k hlt wr (hφ.below hB.out)
      obtain ⟨b2, o2, rfl, f2⟩ := sL.lyrD hnL hlt
      obtain ⟨p1, q1, p2, q2, f2⟩ := f2 k hlt
      have hzn : Hid (ns.getD k ByteArray.empty = (ls.getD k lyr0).1) := Lib.hid (by
        rw [getD_elem0 _ _ _ (by rw [hml.out]; exact hlt), getD_elem0 _ _ _ (by rw [hnL.out]; exact hlt)]
        have := hns.out
        subst this
        exact List.getElem_map _)
      have hbad : Hid (¬ (ts.getD k tak0).1 = ns.getD k ByteArray.empty → false = b) := Lib.hid (fun h => by
        rw [← hb.out]
        exact (decide_eq_false (names_ne (by rw [hnT.out]; exact hlt) h)).symm)
      have hnx : Hid ((ts.getD k tak0).1 = ns.getD k ByteArray.empty → ∀ j, j < k + 1 → (ts.getD j tak0).1 = ns.getD j ByteArray.empty) := Lib.hid (fun h j hj => by
        by_cases e : j = k
        · rw [e]; exact h
        · exact hsame.out j (by omega))
      rw [hzn.out] at hbad
      have hnx2 : Hid ((ts.getD k tak0).1 = (ls.getD k lyr0).1 → ∀ j, j < k + 1 → (ts.getD j tak0).1 = ns.getD j ByteArray.empty) := Lib.hid (fun h => hnx.out (h.trans hzn.out.symm))
      clear f1 hnx hzn
      generalize ts.getD k tak0 = X at *
      obtain ⟨s, t1, t2⟩ := X
      dsimp only at c0 c1 c2 hbad hnx2
      obtain ⟨hbb2, d0, d1, d2, d3⟩ := f2 (wr.alloc (.cells #[.string s, .int .i64 t1, .int .i64 t2] 73)) ((hφ.below hB.out).alloc _)
      clear f2
      generalize (ls.getD k lyr0).1 = nm at *
      generalize (ls.getD k lyr0).2.1.length = m1 at *
      generalize (ls.getD k lyr0).2.2.1 = S at *
      generalize (ls.getD k lyr0).2.2.2.length = m2 at *
      have HB2 := Lib.hid ((hB.out.alloc hB.out.size (.cells #[.string s, .int .i64 t1, .int .i64 t2] 73)).alloc (by rw [alloc_sz]; have := hB.out.size; omega) (.cells #[.string nm, .slice p1 m1 q1, .int .i64 S, .slice p2 m2 q2] 137))
      have K1 := Blk.new wr #[.string s, .int .i64 t1, .int .i64 t2] 73
      have K2 := Lib.hid (K1.alloc (.cells #[.string nm, .slice p1 m1 q1, .int .i64 S, .slice p2 m2 q2] 137))
      have K3 := Blk.new (wr.alloc (.cells #[.string s, .int .i64 t1, .int .i64 t2] 73)) #[.string nm, .slice p1 m1 q1, .int .i64 S, .slice p2 m2 q2] 137
      rw [alloc_sz] at K3
      have K3 := Lib.hid K3
      clear K1
      go_upto_region 7 with (fail)
      clear c0 c1 c2 d0 d1 d2 d3 hbb hbb2 hB
      generalize (wr.alloc (.cells #[.string s, .int .i64 t1, .int .i64 t2] 73)).alloc (.cells #[.string nm, .slice p1 m1 q1, .int .i64 S, .slice p2 m2 q2] 137) = wj at *
      generalize wr.heap.size = bj at *
      have x0 : wj.cell? ⟨bj, 0, none⟩ = some (.string s) := K2.out.cell 0
      have x1 : wj.cell? ⟨bj, 1, none⟩ = some (.int .i64 t1) := K2.out.cell 1
      have x2 : wj.cell? ⟨bj, 2, none⟩ = some (.int .i64 t2) := K2.out.cell 2
      have x3 : wj.cell? ⟨bj + 1, 0, none⟩ = some (.string nm) := K3.out.cell 0
      have x4 : wj.cell? ⟨bj + 1, 1, none⟩ = some (.slice p1 m1 q1) := K3.out.cell 1
      have x5 : wj.cell? ⟨bj + 1, 2, none⟩ = some (.int .i64 S) := K3.out.cell 2
      have x6 : wj.cell? ⟨bj + 1, 3, none⟩ = some (.slice p2 m2 q2) := K3.out.cell 3
      by_cases hz : s = nm
      · have gz : Hid ((s.toList == nm.toList) = true) := Lib.hid (str_eq_t hz)
        have hnx3 := Lib.hid (hnx2.out hz)
        clear hz hnx2 hbad
        go_wp2_with fail
        refine (planOf1_b gz.out).mono ?_
        rintro e w3 ⟨rfl, hb3⟩
        have HB3 := Lib.hid (HB2.out.trans (hb3.mono HB2.out.size))
        clear hb3
        go_wp2
        go_roundw
        case rel => exact ⟨k + 1, by omega, by go_num, hnx3, HB3⟩
        case measure => (simp [intOf] <;> omega)
      · have gz : Hid ((s.toList == nm.toList) = false) := Lib.hid (str_eq_f hz)
        have hq3 := Lib.hid (hbad.out hz)
        clear hz hnx2 hbad
        go_wp2_with fail
        refine (planOf1_b gz.out).mono ?_
        rintro e w3 ⟨rfl, hb3⟩
        have HB3 := Lib.hid (HB2.out.trans (hb3.mono HB2.out.size))
        clear hb3
        go_wp2
        go_ret
        exact ⟨ret_bool hq3.out, HB3.out⟩
    · obtain rfl : nT = k := by omega
      have hq3 : Hid (true = b) := Lib.hid (by rw [← hb.out]; exact (decide_eq_true (names_eq hnT.out hml.out hsame.out)).symm)
      go_wp2
      go_ret
      exact ⟨ret_bool hq3.out, hB.out⟩
end Go.Proofs.YtnlhalnjbkpdnaaGreatDoor

namespace Go.Proofs.YtnlhalnjbkpdnaaGreatDoor
open Go.RowKit Go.Sort
set_option linter.unusedVariables false
set_option linter.unusedSimpArgs false
theorem SlV.lyrS {φ : Phi} {a : Option Addr} {cap : Nat} {xs : List Lyr} (h : SlV φ a cap xs) {k n : Nat} (hn : Hid (xs.length = n)) (hk : k < n) :
    ∃ b off, a = some ⟨b, off, none⟩ ∧ ∀ k, k < n → ∃ (a1 : Option Addr) (c1 : Nat) (a2 : Option Addr) (c2 : Nat), SlV φ a1 c1 (xs.getD k lyr0).2.1 ∧ SlV φ a2 c2 (xs.getD k lyr0).2.2.2 ∧ ∀ w, Fz φ w → b < w.heap.size ∧ w.cell? ⟨b, off + k * 4, none⟩ = some (.string (xs.getD k lyr0).1) ∧ w.cell? ⟨b, off + k * 4 + 1, none⟩ = some (.slice a1 (xs.getD k lyr0).2.1.length c1) ∧ w.cell? ⟨b, off + k * 4 + 2, none⟩ = some (.int .i64 (xs.getD k lyr0).2.2.1) ∧ w.cell? ⟨b, off + k * 4 + 3, none⟩ = some (.slice a2 (xs.getD k lyr0).2.2.2.length c2) := by
  obtain ⟨b, off, ha, hc⟩ := h.cellsD lyr0 hn hk
  refine ⟨b, off, ha, fun k hk => ?_⟩
  obtain ⟨cs, ⟨c, d, rfl, h1, x2, d2, rfl, ⟨a1, c1, rfl, h2⟩, x3, d3, rfl, h3, ⟨a2, c2, rfl, h4⟩⟩, hj⟩ := hc k hk
  cases h1; cases h3
  have j0 := hj 0 (by simp)
  have j1 := hj 1 (by simp)
  have j2 := hj 2 (by simp)
  have j3 := hj 3 (by simp)
  simp [Rep.size] at j0 j1 j2 j3
  exact ⟨a1, c1, a2, c2, h2, h4, fun w hw => ⟨hw.lt j0, hw.cell j0, hw.cell j1, hw.cell j2, hw.cell j3⟩⟩
theorem lyr_at {l : List Unt} {ns : List ByteArray} {m k : Nat} (hns : nmsL l = ns) (hm : ns.length = m) (hk : k < m) : ((nmsL l).map (lyrF l)).getD k lyr0 = lyrF l (ns.getD k ByteArray.empty) := by
  subst hns
  rw [getD_elem0 _ _ _ (by rw [List.length_map, hm]; exact hk), getD_elem0 _ _ _ (by rw [hm]; exact hk), List.getElem_map]
theorem lyr_names (l : List Unt) : ((nmsL l).map (lyrF l)).map (·.1) = nmsL l := by
  rw [List.map_map]
  have : ((fun x : Lyr => x.1) ∘ lyrF l) = id := by funext x; rfl
  rw [this, List.map_id]
/-- What planOf gives. -/
def PlnP (kind : Int) (aT : Option Addr) (nT cT : Nat) (l : List Unt) (q : Int) (φ : Phi) (w : World) (e : Ending) (w' : World) : Prop :=
  ∃ (p : Option Addr) (φ' : Phi), e = .returned (.tuple #[.pointer p, .int .i64 q]) ∧ Inv w.heap.size w φ φ' w' ∧
    (q ≠ 0 ∧ p = none ∨ q = 0 ∧ ∃ (b : Nat) (aL : Option Addr) (cL : Nat), p = some ⟨b, 0, none⟩ ∧ φ' b = some (.cells #[.int .i64 kind, .slice aT nT cT, .slice aL (nmsL l).length cL] 90) ∧ SlV φ' aL cL ((nmsL l).map (lyrF l)))
set_option maxRecDepth 100000 in
set_option maxHeartbeats 4000000 in
theorem planOf_any {w : World} {kind : Int} {aT : Option Addr} {cT nT : Nat} {ts : List Tak} {a : Option Addr} {c n : Nat} {l : List Unt} {φ : Phi} (hφ : Fz φ w) (st : SlV φ aT cT ts) (hnT : Hid (ts.length = nT)) (hmT : nT ≤ 9223372036854775807) (sl : SlV φ a c l) (hn : Hid (l.length = n)) (hm : n ≤ 9223372036854775807) (hs : Hid (∀ u ∈ l, u.2.1.size ≤ reachBytes)) {q : Int} (hq : Hid (dsgF kind ts l = q)) :
    Calls Tryz.prog 29 #[.agg #[.int .i64 kind, .slice aT nT cT], .slice a n c] w (PlnP kind aT nT cT l q φ w) := by
  obtain ⟨φ1, hle1, hi1, hb1⟩ := (Inv.start hφ).frz (.cells #[.int .i64 kind, .slice aT nT cT] 24)
  have hI0 := Lib.hid hi1
  have HB1 := Lib.hid hb1
  have HS := Lib.hid (sl.mono hle1)
  have ST := Lib.hid (st.mono hle1)
  have hbox := Lib.hid (fun (ψ : Phi) (W : World) (hl : φ1.le ψ) (hf : Fz ψ W) => (⟨box_cell HB1.out hl hf 0, box_cell HB1.out hl hf 1⟩ : W.cell? ⟨w.heap.size, 0, none⟩ = some (.int .i64 kind) ∧ W.cell? ⟨w.heap.size, 1, none⟩ = some (.slice aT nT cT)))
  clear hi1 hb1 HB1 hle1 hφ st sl
  obtain ⟨f, hf⟩ : ∃ f, Hid (frmU l = f) := ⟨_, Lib.hid rfl⟩
  by_cases hf0 : f = 0
  case neg =>
    have g0 : ((f : Int) != 0) = true := by simp [hf0]
    have hq3 : Hid (f = q) := Lib.hid (by rw [← hq.out, dsg_frm hf.out hf0])
    have hq0 : Hid (f ≠ 0) := Lib.hid hf0
    have hL : Hid (lyrR l = ([], f)) := Lib.hid (lyr_err hf.out hf0)
    have hml : Hid (([] : List Lyr).length = 0) := Lib.hid rfl
    clear hf0
    go_enter Tryz.func29, Tryz.ntmps29
    go_upto_region 1 with (fail)
    generalize w.alloc (.cells #[.int .i64 kind, .slice aT nT cT] 24) = w1 at *
    obtain ⟨y0, y1⟩ := hbox.out φ1 w1 φ1.le_refl hI0.out.fz
    go_wp2_with (
      go_at_call 82
      (with_reducible refine (layersOf_any hI0.out.fz HS.out hn hm hs).mono ?_)
      rw [hL.out]
      rintro e w2 ⟨a2, c2, φ2, rfl, hi2, s2⟩
      dsimp only at s2 ⊢
      rw [hml.out]
      have hI2 := Lib.hid (hI0.out.call hi2)
      have S2 := Lib.hid s2
      have L2 := Lib.hid hi2.le
      clear hi2 s2 y0 y1
      obtain ⟨y0, y1⟩ := hbox.out φ2 w2 L2.out hI2.out.fz
      )
    go_ret2
    exact ⟨none, φ2, by rw [← hq3.out]; rfl, hI2.out, .inl ⟨by rw [← hq3.out]; exact hq0.out, rfl⟩⟩
  subst hf0
  have hok := Lib.hid (frm_ok hf.out)
  have hl : n ≤ 5000 := by have := hok.out.1; rw [hn.out] at this; exact this
  obtain ⟨ns, hns⟩ : ∃ ns, Hid (nmsL l = ns) := ⟨_, Lib.hid rfl⟩
  obtain ⟨m, hmn⟩ : ∃ m, Hid (ns.length = m) := ⟨_, Lib.hid rfl⟩
  have hm40 : m ≤ 40 := by rw [← hmn.out, ← hns.out]; exact hok.out.2.1
  have hL : Hid (lyrR l = ((nmsL l).map (lyrF l), 0)) := Lib.hid (by unfold lyrR; rw [hf.out, if_neg (by simp)])
  obtain ⟨ls, hls⟩ : ∃ ls, Hid ((nmsL l).map (lyrF l) = ls) := ⟨_, Lib.hid rfl⟩
  have hml : Hid (ls.length = m) := Lib.hid (by rw [← hls.out, List.length_map, hns.out, hmn.out])
  have hlm : Hid (ls.map (·.1) = ns) := Lib.hid (by rw [← hls.out, lyr_names, hns.out])
  rw [hls.out] at hL
  obtain ⟨ob, hob⟩ : ∃ b, Hid (outB kind 1 3 = b) := ⟨_, Lib.hid rfl⟩
  cases ob
  case true =>
    have hq3 : Hid (4 = q) := Lib.hid (by rw [← hq.out, dsg_kind hf.out hob.out])
    have ho := hob
    go_enter Tryz.func29, Tryz.ntmps29
    go_upto_region 1 with (fail)
    generalize w.alloc (.cells #[.int .i64 kind, .slice aT nT cT] 24) = w1 at *
    obtain ⟨y0, y1⟩ := hbox.out φ1 w1 φ1.le_refl hI0.out.fz
    go_wp2_with (first
      | (
        go_at_call 82
        (with_reducible refine (layersOf_any hI0.out.fz HS.out hn hm hs).mono ?_)
        rw [hL.out]
        rintro e w2 ⟨a2, c2, φ2, rfl, hi2, s2⟩
        dsimp only at s2 ⊢
        rw [hml.out]
        have hI2 := Lib.hid (hI0.out.call hi2)
        have S2 := Lib.hid s2
        have L2 := Lib.hid hi2.le
        clear hi2 s2 y0 y1
        obtain ⟨y0, y1⟩ := hbox.out φ2 w2 L2.out hI2.out.fz
        )
      | (
        go_at_call 83
        (with_reducible refine (outsideZ_b kind 1 3 _ ho.out).mono ?_)
        rintro e w3 ⟨rfl, rfl⟩
        )
      | fail)
    go_ret2
    exact ⟨none, φ2, by rw [← hq3.out]; rfl, hI2.out, .inl ⟨by rw [← hq3.out]; decide, rfl⟩⟩
  have ho := hob
  obtain ⟨be, hbe⟩ : ∃ b, Hid (decide (ts.map (·.1) = ls.map (·.1)) = b) := ⟨_, Lib.hid rfl⟩
  cases be
  case false =>
    have hq3 : Hid (3 = q) := Lib.hid (by
      rw [← hq.out, dsg_form hf.out hob.out]
      have := of_decide_eq_false hbe.out
      rw [hns.out, ← hlm.out]
      exact this)
    go_enter Tryz.func29, Tryz.ntmps29
    go_upto_region 1 with (fail)
    generalize w.alloc (.cells #[.int .i64 kind, .slice aT nT cT] 24) = w1 at *
    obtain ⟨y0, y1⟩ := hbox.out φ1 w1 φ1.le_refl hI0.out.fz
    go_wp2_with (first
      | (
        go_at_call 82
        (with_reducible refine (layersOf_any hI0.out.fz HS.out hn hm hs).mono ?_)
        rw [hL.out]
        rintro e w2 ⟨a2, c2, φ2, rfl, hi2, s2⟩
        dsimp only at s2 ⊢
        rw [hml.out]
        have hI2 := Lib.hid (hI0.out.call hi2)
        have S2 := Lib.hid s2
        have L2 := Lib.hid hi2.le
        clear hi2 s2 y0 y1
        obtain ⟨y0, y1⟩ := hbox.out φ2 w2 L2.out hI2.out.fz
        )
      | (
        go_at_call 83
        (with_reducible refine (outsideZ_b kind 1 3 _ ho.out).mono ?_)
        rintro e w3 ⟨rfl, rfl⟩
        )
      | (
        go_at_call 84
        (with_reducible refine (EqualTL_b hI2.out.fz (ST.out.mono L2.out) hnT hmT S2.out hml hbe).mono ?_)
        rintro e w4 ⟨rfl, hb4⟩
        have hI4 := Lib.hid (hI2.out.callB hb4)
        clear hb4 y0 y1
        obtain ⟨y0, y1⟩ := hbox.out φ2 w4 L2.out hI4.out.fz
        )
      | fail)
    go_ret2
    exact ⟨none, φ2, by rw [← hq3.out]; rfl, hI4.out, .inl ⟨by rw [← hq3.out]; decide, rfl⟩⟩
  have hsame : Hid (ts.map (·.1) = ns) := Lib.hid (by rw [← hlm.out]; exact of_decide_eq_true hbe.out)
  have hq4 : Hid (scan (fun i => takF kind (ts.getD i tak0) (stU l (ts.getD i tak0).1)) m = q) := Lib.hid (by
    rw [← hq.out, dsg_scan hf.out hob.out (by rw [hns.out]; exact hsame.out), ← hmn.out, ← hsame.out, List.length_map])
  have hTm : Hid (nT = m) := Lib.hid (by rw [← hnT.out, ← hmn.out, ← hsame.out, List.length_map])
  have hk3 := Lib.hid (kind_of hob.out)
  go_enter Tryz.func29, Tryz.ntmps29
  go_upto_region 1 with (fail)
  generalize w.alloc (.cells #[.int .i64 kind, .slice aT nT cT] 24) = w1 at *
  obtain ⟨y0, y1⟩ := hbox.out φ1 w1 φ1.le_refl hI0.out.fz
  go_wp2_with (first
    | (
      go_at_call 82
      (with_reducible refine (layersOf_any hI0.out.fz HS.out hn hm hs).mono ?_)
      rw [hL.out]
      rintro e w2 ⟨a2, c2, φ2, rfl, hi2, s2⟩
      dsimp only at s2 ⊢
      rw [hml.out]
      have hI2 := Lib.hid (hI0.out.call hi2)
      have S2 := Lib.hid s2
      have L2 := Lib.hid hi2.le
      clear hi2 s2 y0 y1
      obtain ⟨y0, y1⟩ := hbox.out φ2 w2 L2.out hI2.out.fz
      )
    | (
      go_at_call 83
      (with_reducible refine (outsideZ_b kind 1 3 _ ho.out).mono ?_)
      rintro e w3 ⟨rfl, rfl⟩
      )
    | (
      go_at_call 84
      (with_reducible refine (EqualTL_b hI2.out.fz (ST.out.mono L2.out) hnT hmT S2.out hml hbe).mono ?_)
      rintro e w4 ⟨rfl, hb4⟩
      have hI4 := Lib.hid (hI2.out.callB hb4)
      clear hb4 y0 y1
      obtain ⟨y0, y1⟩ := hbox.out φ2 w4 L2.out hI4.out.fz
      )
    | fail)
  clear y0 y1
  go_loopw [29] (fun i wr => ∃ k : Nat, k ≤ m ∧ i = .int .i64 k ∧ Hid (∀ i, i < k → (fun i => takF kind (ts.getD i tak0) (stU l (ts.getD i tak0).1)) i = 0) ∧ Hid (Inv w.heap.size w φ φ2 wr)) (fun i _ => m - (intOf i).toNat)
  case atStart => exact ⟨0, Nat.zero_le _, rfl, none_yet _, hI4⟩
  case round =>
    clear hI4 hI2 hI0
    obtain ⟨k, hk, rfl, hok2, hI⟩ := hrel
    by_cases hlt : k < m
    · obtain ⟨bL, oL, rfl, f1⟩ := S2.out.lyrS hml hlt
      obtain ⟨aU, cU, aC, cC, sU, sC, f1⟩ := f1 k hlt
      obtain ⟨bT, oT, rfl, f2⟩ := (ST.out.mono L2.out).takD hnT (show k < nT by rw [hTm.out]; exact hlt)
      have hnk : Hid ((ts.getD k tak0).1 = ns.getD k ByteArray.empty) := Lib.hid (by
        have h1 : k < ts.length := by rw [hnT.out, hTm.out]; exact hlt
        rw [getD_elem0 _ _ _ h1, getD_elem0 _ _ _ (by rw [hmn.out]; exact hlt)]
        have := hsame.out
        subst this
        rw [List.getElem_map])
      have hel : ls.getD k lyr0 = (ns.getD k ByteArray.empty, stU l (ns.getD k ByteArray.empty), szU (stU l (ns.getD k ByteArray.empty)), (cnsL (stU l (ns.getD k ByteArray.empty))).map (cluF (stU l (ns.getD k ByteArray.empty)))) := by
        rw [← hls.out]; exact lyr_at hns.out hmn.out hlt
      have hmem : Hid (ns.getD k ByteArray.empty ∈ nmsL l) := Lib.hid (by
        rw [hns.out, getD_elem0 _ _ _ (by rw [hmn.out]; exact hlt)]; exact List.getElem_mem _)
      have hF : Hid ((fun i => takF kind (ts.getD i tak0) (stU l (ts.getD i tak0).1)) k = takF kind (ts.getD k tak0) (stU l (ts.getD k tak0).1)) := Lib.hid rfl
      have F2 := Lib.hid (f2 k (show k < nT by rw [hTm.out]; exact hlt))
      rw [hel] at f1 sU sC
      dsimp only at f1 sU sC
      rw [hnk.out] at hF
      clear f2 hel
      generalize hX : ts.getD k tak0 = X at *
      obtain ⟨s, t1, t2⟩ := X
      dsimp only at F2 hnk
      generalize ns.getD k ByteArray.empty = nm at *
      have hnk2 := hnk.out
      subst hnk2
      obtain ⟨us, hus⟩ : ∃ us, Hid (stU l s = us) := ⟨_, Lib.hid rfl⟩
      obtain ⟨nu, hnu⟩ : ∃ nu, Hid (us.length = nu) := ⟨_, Lib.hid rfl⟩
      obtain ⟨nc, hnc⟩ : ∃ nu, Hid ((cnsL us).length = nu) := ⟨_, Lib.hid rfl⟩
      obtain ⟨sz, hsz⟩ : ∃ z, Hid (szU us = z) := ⟨_, Lib.hid rfl⟩
      have hul : nu ≤ 5000 := by rw [← hnu.out, ← hus.out]; exact Nat.le_trans (stU_len l s) (by rw [hn.out]; exact hl)
      have hu0 : 0 < nu := by rw [← hnu.out, ← hus.out]; exact List.length_pos_iff.2 (stU_ne.2 hmem.out)
      have hoku : Hid (∀ u ∈ us, 1 ≤ u.2.2.2 ∧ u.2.2.2 ≤ 1000000) := Lib.hid (fun u hu => by rw [← hus.out] at hu; exact (hok.out.2.2 u (stU_mem hu)).2.2)
      obtain ⟨v, hv⟩ : ∃ v, Hid (takF kind (s, t1, t2) us = v) := ⟨_, Lib.hid rfl⟩
      rw [hus.out, hv.out] at hF
      rw [hus.out] at f1 sU sC
      rw [List.length_map, hnu.out, hnc.out, hsz.out] at f1
      obtain ⟨hbb, c0, c1, c2', c3⟩ := f1 wr hI.out.fz
      obtain ⟨φ3, hle3, hi3, hb3⟩ := hI.out.frz (.cells #[.string s, .slice aU nu cU, .int .i64 sz, .slice aC nc cC] 137)
      have hI3 := Lib.hid (hI.out.alloc (.cells #[.string s, .slice aU nu cU, .int .i64 sz, .slice aC nc cC] 137))
      have SU := Lib.hid (sU.mono hle3)
      have SC := Lib.hid (sC.mono hle3)
      have HB3 := Lib.hid hb3
      have HF3 := Lib.hid hi3.fz
      have L3 := Lib.hid hle3
      clear hb3 hi3 hle3 sU sC f1
      have hfun := Lib.hid (fun (W : World) (hf : Fz φ3 W) => (⟨(hbox.out φ3 W (L2.out.trans L3.out) hf).1, (hbox.out φ3 W (L2.out.trans L3.out) hf).2, box_cell HB3.out φ3.le_refl hf 0, box_cell HB3.out φ3.le_refl hf 1, box_cell HB3.out φ3.le_refl hf 2, box_cell HB3.out φ3.le_refl hf 3, (F2.out W (hf.sub L3.out)).2⟩ : W.cell? ⟨w.heap.size, 0, none⟩ = some (.int .i64 kind) ∧ W.cell? ⟨w.heap.size, 1, none⟩ = some (.slice (some ⟨bT, oT, none⟩) nT cT) ∧ W.cell? ⟨wr.heap.size, 0, none⟩ = some (.string s) ∧ W.cell? ⟨wr.heap.size, 1, none⟩ = some (.slice aU nu cU) ∧ W.cell? ⟨wr.heap.size, 2, none⟩ = some (.int .i64 sz) ∧ W.cell? ⟨wr.heap.size, 3, none⟩ = some (.slice aC nc cC) ∧ W.cell? ⟨bT, oT + k * 3, none⟩ = some (.string s) ∧ W.cell? ⟨bT, oT + k * 3 + 1, none⟩ = some (.int .i64 t1) ∧ W.cell? ⟨bT, oT + k * 3 + 2, none⟩ = some (.int .i64 t2)))
      have hTb := Lib.hid ((F2.out wr hI.out.fz).1)
      go_upto_region 11 with (fail)
      clear c0 c1 c2' c3 hbb hI F2 HB3
      generalize wr.alloc (.cells #[.string s, .slice aU nu cU, .int .i64 sz, .slice aC nc cC] 137) = wj at *
      generalize wr.heap.size = bj at *
      have hId : Hid (Inv w.heap.size w φ φ2 wj.drew) := Lib.hid (hI3.out.drewN 1)
      have HFd : Hid (Fz φ3 wj.drew) := Lib.hid HF3.out
      obtain ⟨y0, y1, y2, y3, y4, y5, y6, y7, y8⟩ := hfun.out wj.drew HFd.out
      have hkT : k < nT := by rw [hTm.out]; exact hlt
      by_cases hv0 : v = 0
      · have gv : ((v : Int) != 0) = false := by simp [hv0]
        have hnx := next_ok hok2 (hF.out.trans hv0)
        clear hv0
        go_region_held3 (fun W => W.cell? ⟨w.heap.size, 0, none⟩ = some (.int .i64 kind) ∧ W.cell? ⟨w.heap.size, 1, none⟩ = some (.slice (some ⟨bT, oT, none⟩) nT cT) ∧ W.cell? ⟨bj, 0, none⟩ = some (.string s) ∧ W.cell? ⟨bj, 1, none⟩ = some (.slice aU nu cU) ∧ W.cell? ⟨bj, 2, none⟩ = some (.int .i64 sz) ∧ W.cell? ⟨bj, 3, none⟩ = some (.slice aC nc cC) ∧ W.cell? ⟨bT, oT + k * 3, none⟩ = some (.string s) ∧ W.cell? ⟨bT, oT + k * 3 + 1, none⟩ = some (.int .i64 t1) ∧ W.cell? ⟨bT, oT + k * 3 + 2, none⟩ = some (.int .i64 t2)) (first | with_reducible exact ⟨y0, y1, y2, y3, y4, y5, y6, y7, y8⟩ | with_reducible exact ⟨z0, z1, z2, z3, z4, z5, z6, z7, z8⟩) (first
          | (go_at_call 86; (with_reducible refine (fits_any hk3.out HFd.out SU.out SC.out hnu hnc hu0 hul hoku hsz hv).mono ?_); rintro e w6 ⟨rfl, hb6⟩; have hI6 := Lib.hid (hId.out.callB hb6); obtain ⟨z0, z1, z2, z3, z4, z5, z6, z7, z8⟩ := hfun.out w6 (HFd.out.below hb6); clear hb6)
          | fail)
        go_wp2
        go_roundw
        case rel => exact ⟨k + 1, by omega, by go_num, hnx, hI6⟩
        case measure => (simp [intOf] <;> omega)
      · have gv : ((v : Int) != 0) = true := by simp [hv0]
        have hq3 : Hid (v = q) := Lib.hid (by
          rw [← hq4.out]; exact ((scan_stop hok2.out hlt (fun e => hv0 (hF.out.symm.trans e))).trans hF.out).symm)
        have hv1 := Lib.hid hv0
        clear hv0
        go_region_held3 (fun W => W.cell? ⟨w.heap.size, 0, none⟩ = some (.int .i64 kind) ∧ W.cell? ⟨w.heap.size, 1, none⟩ = some (.slice (some ⟨bT, oT, none⟩) nT cT) ∧ W.cell? ⟨bj, 0, none⟩ = some (.string s) ∧ W.cell? ⟨bj, 1, none⟩ = some (.slice aU nu cU) ∧ W.cell? ⟨bj, 2, none⟩ = some (.int .i64 sz) ∧ W.cell? ⟨bj, 3, none⟩ = some (.slice aC nc cC) ∧ W.cell? ⟨bT, oT + k * 3, none⟩ = some (.string s) ∧ W.cell? ⟨bT, oT + k * 3 + 1, none⟩ = some (.int .i64 t1) ∧ W.cell? ⟨bT, oT + k * 3 + 2, none⟩ = some (.int .i64 t2)) (first | with_reducible exact ⟨y0, y1, y2, y3, y4, y5, y6, y7, y8⟩ | with_reducible exact ⟨z0, z1, z2, z3, z4, z5, z6, z7, z8⟩) (first
          | (go_at_call 86; (with_reducible refine (fits_any hk3.out HFd.out SU.out SC.out hnu hnc hu0 hul hoku hsz hv).mono ?_); rintro e w6 ⟨rfl, hb6⟩; have hI6 := Lib.hid (hId.out.callB hb6); obtain ⟨z0, z1, z2, z3, z4, z5, z6, z7, z8⟩ := hfun.out w6 (HFd.out.below hb6); clear hb6)
          | fail)
        go_wp2
        go_ret2
        exact ⟨none, φ2, by rw [← hq3.out]; rfl, hI6.out, .inl ⟨by rw [← hq3.out]; exact hv1.out, rfl⟩⟩
    · obtain rfl : m = k := by omega
      have hq3 : Hid (0 = q) := Lib.hid (by rw [← hq4.out, scan_zero _ _ hok2.out])
      obtain ⟨φ9, hle9, hi9, hb9⟩ := hI.out.frz (.cells #[.int .i64 kind, .slice aT nT cT, .slice a2 m c2] 90)
      have HI9 := Lib.hid hi9
      have HB9 := Lib.hid hb9
      have S9 := Lib.hid (S2.out.mono hle9)
      clear hle9 hi9 hb9
      obtain ⟨y0, y1⟩ := hbox.out φ2 wr L2.out hI.out.fz
      go_wp2
      go_ret2
      exact ⟨some ⟨wr.heap.size, 0, none⟩, φ9, by rw [← hq3.out]; rfl, HI9.out, .inr ⟨hq3.out.symm, wr.heap.size, a2, c2, rfl, by rw [hns.out, hmn.out]; exact HB9.out, by rw [hls.out]; exact S9.out⟩⟩
set_option maxHeartbeats 1000000 in
theorem PCheckDesign_any {w : World} {kind : Int} {aT : Option Addr} {cT nT : Nat} {ts : List Tak} {a : Option Addr} {c n : Nat} {l : List Unt} {φ : Phi} (hφ : Fz φ w) (st : SlV φ aT cT ts) (hnT : Hid (ts.length = nT)) (hmT : nT ≤ 9223372036854775807) (sl : SlV φ a c l) (hn : Hid (l.length = n)) (hm : n ≤ 9223372036854775807) (hs : Hid (∀ u ∈ l, u.2.1.size ≤ reachBytes)) {q : Int} (hq : Hid (dsgF kind ts l = q)) :
    Calls Tryz.prog 9 #[.agg #[.int .i64 kind, .slice aT nT cT], .slice a n c] w (fun e w' => e = .returned (.int .i64 q) ∧ Below w.heap.size w w') := by
  have hI0 := Lib.hid ((Inv.start hφ).alloc (.cells #[.int .i64 kind, .slice aT nT cT] 24))
  have ST := Lib.hid st
  have SL := Lib.hid sl
  go_enter Tryz.func9, Tryz.ntmps9
  go_wp2_with (go_at_call 29; (with_reducible refine (planOf_any hI0.out.fz ST.out hnT hmT SL.out hn hm hs hq).mono ?_); rintro e w1 ⟨p, φ1, rfl, hi1, hp⟩; have hI1 := Lib.hid (hI0.out.call hi1); clear hi1 hp)
  go_ret
  exact ⟨rfl, hI1.out.bel⟩
end Go.Proofs.YtnlhalnjbkpdnaaGreatDoor
