/- The walk of movesOf. Conditions: the trees are in memory as told. -/
import Derived.Test.YthnmglckhfajeaaK11
namespace Go.Proofs.Ythnmglckhfajeaa
open Go.RowKit
set_option linter.unusedVariables false

abbrev Mov := Int × Int
abbrev mov0 : Mov := (0, 0)
theorem SlV.movD {φ : Phi} {a : Option Addr} {cap : Nat} {xs : List Mov} (h : SlV φ a cap xs) {k n : Nat} (hn : Hid (xs.length = n)) (hk : k < n) :
    ∃ b off, a = some ⟨b, off, none⟩ ∧ ∀ k, k < n → ∀ w, Fz φ w → b < w.heap.size ∧ w.cell? ⟨b, off + k * 2, none⟩ = some (.int .i64 (xs.getD k mov0).1) ∧ w.cell? ⟨b, off + k * 2 + 1, none⟩ = some (.int .i64 (xs.getD k mov0).2) := by
  obtain ⟨b, off, ha, hc⟩ := h.cellsD mov0 hn hk
  refine ⟨b, off, ha, fun k hk w hw => ?_⟩
  obtain ⟨cs, ⟨c, d, rfl, h1, h2⟩, hj⟩ := hc k hk
  cases h1; cases h2
  have j0 := hj 0 (by simp)
  have j1 := hj 1 (by simp)
  simp [Rep.size] at j0 j1
  exact ⟨hw.lt j0, hw.cell j0, hw.cell j1⟩
def mvBad (l l2 : List Nod) (ms : List Mov) (k : Nat) : Int :=
  if (ix l (ms.getD k mov0).1).isSome = false then 5
  else if (ms.getD k mov0).2 ≠ 0 ∧ (ix l2 (ms.getD k mov0).2).isSome = false then 5
  else if 0 < k ∧ (ms.getD k mov0).1 ≤ (ms.getD (k - 1) mov0).1 then 7 else 0
def mvsF (l l2 : List Nod) (ms : List Mov) : Int := scan (mvBad l l2 ms) ms.length
def mvK (ms : List Mov) : Nat → Int → Option Int
  | 0 => fun _ => none
  | k + 1 => updF (mvK ms k) (ms.getD k mov0).1 (ms.getD k mov0).2
theorem mvsF_at {l l2 : List Nod} {ms : List Mov} {n k : Nat} (hn : Hid (ms.length = n)) (hk : k < n) (h : Hid (∀ i, i < k → mvBad l l2 ms i = 0)) {c : Int} (hc : mvBad l l2 ms k = c) (hc0 : c ≠ 0) : mvsF l l2 ms = c := by
  rw [mvsF, hn.out, scan_stop h.out hk (by rw [hc]; exact hc0), hc]
theorem mvsF_ok {l l2 : List Nod} {ms : List Mov} {n : Nat} (hn : Hid (ms.length = n)) (h : Hid (∀ i, i < n → mvBad l l2 ms i = 0)) : mvsF l l2 ms = 0 := by
  rw [mvsF, hn.out, scan_zero _ _ h.out]
def MovesPost (l l2 : List Nod) (ms : List Mov) (n : Nat) (w : World) (e : Ending) (w' : World) : Prop :=
  Below w.heap.size w w' ∧ ((mvsF l l2 ms ≠ 0 ∧ e = .returned (.tuple #[.map none, .int .i64 (mvsF l l2 ms)])) ∨ (mvsF l l2 ms = 0 ∧ ∃ r, e = .returned (.tuple #[.map (some r), .int .i64 0]) ∧ MapW w' r (mvK ms n)))
theorem has_b {w : World} {bt : Nat} {a : Option Addr} {c n m1 m2 : Nat} {f1 f2 : Int → Option Int} (h : TreeW w bt a c n m1 m2 f1 f2) (k : Int) {b : Bool} (hk : (f1 k).isSome = b) :
    Calls Try.prog 31 #[.pointer (some ⟨bt, 0, none⟩), .int .i64 k] w fun e w' => e = .returned (.bool b) ∧ w = w' := by rw [← hk]; exact has_any h k
structure MvSt (w : World) (r : Nat) (f : Int → Option Int) (wr : World) : Prop where
  bel : Below w.heap.size w wr
  map : MapW wr r f
  lo : w.heap.size ≤ r
theorem MvSt.callB {w wr w' : World} {r : Nat} {f : Int → Option Int} (h : MvSt w r f wr) (hb : Below wr.heap.size wr w') : MvSt w r f w' := ⟨h.bel.trans (hb.mono h.bel.size), h.map.callB hb, h.lo⟩
theorem MvSt.alloc {w wr : World} {r : Nat} {f : Int → Option Int} (h : MvSt w r f wr) (o : Obj) : MvSt w r f (wr.alloc o) := h.callB ((Below.refl _ _).alloc (Nat.le_refl _) o)
theorem MvSt.drewN {w wr : World} {r : Nat} {f : Int → Option Int} (h : MvSt w r f wr) (q : Nat) : MvSt w r f (wr.drewN q) := h.callB (bdrewN (Below.refl _ _) q)
/-- A store: the object that comes of it, the run, the new state; behind any draws. -/
theorem MvSt.put {w wr : World} {r : Nat} {f : Int → Option Int} (h : MvSt w r f wr) (k x : Int) : ∃ o, (∀ q, (Instr.mapUpdate 64 (.map (some r)) (.int .i64 k) (.int .i64 x)).run Try.prog (wr.drewN q) = .ok () (setMap (wr.drewN q) r o)) ∧ ∀ q, MvSt w r (updF f k x) (setMap (wr.drewN q) r o) := by
  obtain ⟨o, h1, h2⟩ := h.map.put k x
  exact ⟨o, h1, fun q => ⟨Below_grown (bdrewN h.bel q) (setMap_grown _ r o) h.lo, h2 _ (setMap_same o h.map.lt), h.lo⟩⟩

set_option maxRecDepth 100000 in
set_option maxHeartbeats 1000000 in
theorem movesOf_any {w : World} {bt : Nat} {a : Option Addr} {c n m1 m2 : Nat} {f2 : Int → Option Int} {l : List Nod} (ht : TreeW w bt a c n m1 m2 (atF l) f2) {bt' : Nat} {a' : Option Addr} {c' n' m1' m2' : Nat} {f2' : Int → Option Int} {l2 : List Nod} (ht' : TreeW w bt' a' c' n' m1' m2' (atF l2) f2')
    {ac : Option Addr} {cc nc : Nat} {ms : List Mov} {φ : Phi} (hφ : Fz φ w) (sc : SlV φ ac cc ms) (hnc : Hid (ms.length = nc)) (hmc : nc ≤ 9223372036854775807) :
    Calls Try.prog 29 #[.pointer (some ⟨bt, 0, none⟩), .pointer (some ⟨bt', 0, none⟩), .slice ac nc cc] w (MovesPost l l2 ms nc w) := by
  have HT := Lib.hid ht
  have HT' := Lib.hid ht'
  clear ht ht'
  have hmm := @run_makeMap Try.prog
  have hS0 : Hid (MvSt w w.heap.size (mvK ms 0) (w.alloc (.map #[] 0))) := Lib.hid ⟨(Below.refl _ _).alloc (Nat.le_refl _) _, ⟨_, [], heap_alloc_new w _, MapO.empty, fun _ => rfl⟩, Nat.le_refl _⟩
  go_enter Try.func29, Try.ntmps29
  go_wp2
  clear hmm
  generalize hw0 : w.alloc (.map #[] 0) = wm at *
  generalize hr0 : w.heap.size = r at *
  clear hw0
  go_loopw [14] (fun i wr => ∃ k : Nat, k ≤ nc ∧ i = .int .i64 k ∧ Hid (∀ i, i < k → mvBad l l2 ms i = 0) ∧ Hid (MvSt w r (mvK ms k) wr)) (fun i _ => nc - (intOf i).toNat)
  case atStart => exact ⟨0, Nat.zero_le _, rfl, none_yet _, hS0⟩
  case round =>
    clear hS0
    replace hr0 := Lib.hid hr0
    obtain ⟨k, hk, rfl, hok, hS⟩ := hrel
    by_cases hlt : k < nc
    · obtain ⟨b, off, rfl, f⟩ := sc.movD hnc hlt
      have hf := hφ.below hS.out.bel
      obtain ⟨hb, c1, c2⟩ := f k hlt wr hf
      have hp : 0 < k → wr.cell? ⟨b, off + (k - 1) * 2, none⟩ = some (.int .i64 (ms.getD (k - 1) mov0).1) := fun h => (f (k - 1) (by omega) wr hf).2.1
      have hbad : Hid (mvBad l l2 ms k = _) := Lib.hid (mvBad.eq_1 l l2 ms k)
      have hmk : Hid (mvK ms (k + 1) = updF (mvK ms k) (ms.getD k mov0).1 (ms.getD k mov0).2) := Lib.hid rfl
      have HP := Lib.hid hp
      clear f hp
      generalize (ms.getD k mov0).1 = x1 at *
      generalize (ms.getD k mov0).2 = x2 at *
      generalize (ms.getD (k - 1) mov0).1 = y1 at *
      have HA := fun o => Lib.hid (HT.out.callB (hS.out.alloc o).bel)
      have HA' := fun o => Lib.hid (HT'.out.callB (hS.out.alloc o).bel)
      have hS1 : Hid (MvSt w r (mvK ms k) (wr.alloc (.cells #[.int .i64 x1, .int .i64 x2] 85))) := Lib.hid (hS.out.alloc _)
      obtain ⟨o, p1, p2⟩ := hS1.out.put x1 x2
      have P2 := Lib.hid p2
      have hbx : (wr.alloc (.cells #[.int .i64 x1, .int .i64 x2] 85)).cell? ⟨wr.heap.size, 0, none⟩ = some (.int .i64 x1) := box_at 0
      have hbx2 : (wr.alloc (.cells #[.int .i64 x1, .int .i64 x2] 85)).cell? ⟨wr.heap.size, 1, none⟩ = some (.int .i64 x2) := box_at 1
      have HBX := Lib.hid (And.intro hbx hbx2)
      clear p2 hbx hbx2
      obtain ⟨s1, hs1⟩ : ∃ s, Hid ((atF l x1).isSome = s) := ⟨_, Lib.hid rfl⟩
      obtain ⟨s2, hs2⟩ : ∃ s, Hid ((atF l2 x2).isSome = s) := ⟨_, Lib.hid rfl⟩
      have P1 := Lib.hid p1
      clear p1
      cases s1
      · go_wp2_with (first | (go_at_call 31; ((with_reducible refine (has_b (HA _).out _ hs1.out).mono ?_); rintro e w' ⟨rfl, rfl⟩)) | (go_at_call 31; ((with_reducible refine (has_b (HA' _).out _ hs2.out).mono ?_); rintro e w' ⟨rfl, rfl⟩)))
        go_ret2
        have e : mvsF l l2 ms = 5 := mvsF_at hnc hlt hok (by rw [hbad.out, ← atF_isSome, ← atF_isSome, hs1.out, if_pos rfl]) (by decide)
        exact ⟨(hS.out.alloc _).bel, .inl ⟨by rw [e]; decide, by rw [e]; rfl⟩⟩
      · by_cases hx0 : x2 = 0
        · have hx1 : ((x2 : Int) != 0) = false := by simp [hx0]
          have e2 : Hid (¬ (x2 ≠ 0 ∧ (ix l2 x2).isSome = false)) := Lib.hid (fun h => h.1 hx0)
          clear hx0
          by_cases h0 : 0 < k
          · have hpp := HP.out h0
            have h3i : decide ((0 : Int) < k) = true := decide_eq_true (by omega)
            have hix : 0 ≤ (k : Int) - 1 := by omega
            have hix2 : (k : Int) - 1 < nc := by omega
            have hw1 : IntKind.i64.wrap ((k : Int) - 1) = k - 1 := IntWalk.i64_in _ (by omega)
            have hto : ((k : Int) - 1).toNat = k - 1 := by omega
            by_cases h1 : x1 ≤ y1
            · have h1b : decide (x1 ≤ y1) = true := decide_eq_true h1
              go_wp2_with (first | (go_at_call 31; ((with_reducible refine (has_b (HA _).out _ hs1.out).mono ?_); rintro e w' ⟨rfl, rfl⟩)) | (go_at_call 31; ((with_reducible refine (has_b (HA' _).out _ hs2.out).mono ?_); rintro e w' ⟨rfl, rfl⟩)))
              go_quiet (fail)
              go_wp2
              go_ret2
              have e : mvsF l l2 ms = 7 := mvsF_at hnc hlt hok (by rw [hbad.out, if_neg (by rw [← atF_isSome, hs1.out]; simp), if_neg e2.out, if_pos ⟨h0, h1⟩]) (by decide)
              exact ⟨bdrewN (hS.out.alloc _).bel _, .inl ⟨by rw [e]; decide, by rw [e]; rfl⟩⟩
            · have h1b : decide (x1 ≤ y1) = false := decide_eq_false h1
              go_wp2_with (first | (go_at_call 31; ((with_reducible refine (has_b (HA _).out _ hs1.out).mono ?_); rintro e w' ⟨rfl, rfl⟩)) | (go_at_call 31; ((with_reducible refine (has_b (HA' _).out _ hs2.out).mono ?_); rintro e w' ⟨rfl, rfl⟩)))
              go_quiet (fail)
              have q1 := P1.out nq
              have hS2 := Lib.hid (P2.out nq)
              go_wp2
              go_roundw
              case rel => exact ⟨k + 1, by omega, by go_num, next_ok hok (by rw [hbad.out, if_neg (by rw [← atF_isSome, hs1.out]; simp), if_neg e2.out, if_neg (fun h => by have := h.2; omega)]), by rw [hmk.out]; exact hS2⟩
              case measure => simp [intOf]; omega
          · have h3i : decide ((0 : Int) < k) = false := decide_eq_false (by omega)
            go_wp2_with (first | (go_at_call 31; ((with_reducible refine (has_b (HA _).out _ hs1.out).mono ?_); rintro e w' ⟨rfl, rfl⟩)) | (go_at_call 31; ((with_reducible refine (has_b (HA' _).out _ hs2.out).mono ?_); rintro e w' ⟨rfl, rfl⟩)))
            go_quiet (fail)
            have q1 := P1.out nq
            have hS2 := Lib.hid (P2.out nq)
            go_wp2
            go_roundw
            case rel => exact ⟨k + 1, by omega, by go_num, next_ok hok (by rw [hbad.out, if_neg (by rw [← atF_isSome, hs1.out]; simp), if_neg e2.out, if_neg (fun h => by have := h.1; omega)]), by rw [hmk.out]; exact hS2⟩
            case measure => simp [intOf]; omega
        · have hx1 : ((x2 : Int) != 0) = true := by simp [hx0]
          have HX := Lib.hid hx0
          clear hx0
          cases s2
          · go_wp2_with (first | (go_at_call 31; ((with_reducible refine (has_b (HA _).out _ hs1.out).mono ?_); rintro e w' ⟨rfl, rfl⟩)) | (go_at_call 31; ((with_reducible refine (has_b (HA' _).out _ hs2.out).mono ?_); rintro e w' ⟨rfl, rfl⟩)))
            go_ret2
            have e : mvsF l l2 ms = 5 := mvsF_at hnc hlt hok (by rw [hbad.out, ← atF_isSome, ← atF_isSome, hs1.out, if_neg (by simp), if_pos ⟨HX.out, by rw [hs2.out]⟩]) (by decide)
            exact ⟨(hS.out.alloc _).bel, .inl ⟨by rw [e]; decide, by rw [e]; rfl⟩⟩
          · have e2 : Hid (¬ (x2 ≠ 0 ∧ (ix l2 x2).isSome = false)) := Lib.hid (fun h => by have := h.2; rw [← atF_isSome, hs2.out] at this; cases this)
            by_cases h0 : 0 < k
            · have hpp := HP.out h0
              have h3i : decide ((0 : Int) < k) = true := decide_eq_true (by omega)
              have hix : 0 ≤ (k : Int) - 1 := by omega
              have hix2 : (k : Int) - 1 < nc := by omega
              have hw1 : IntKind.i64.wrap ((k : Int) - 1) = k - 1 := IntWalk.i64_in _ (by omega)
              have hto : ((k : Int) - 1).toNat = k - 1 := by omega
              by_cases h1 : x1 ≤ y1
              · have h1b : decide (x1 ≤ y1) = true := decide_eq_true h1
                go_wp2_with (first | (go_at_call 31; ((with_reducible refine (has_b (HA _).out _ hs1.out).mono ?_); rintro e w' ⟨rfl, rfl⟩)) | (go_at_call 31; ((with_reducible refine (has_b (HA' _).out _ hs2.out).mono ?_); rintro e w' ⟨rfl, rfl⟩)))
                go_quiet (fail)
                go_wp2
                go_ret2
                have e : mvsF l l2 ms = 7 := mvsF_at hnc hlt hok (by rw [hbad.out, if_neg (by rw [← atF_isSome, hs1.out]; simp), if_neg e2.out, if_pos ⟨h0, h1⟩]) (by decide)
                exact ⟨bdrewN (hS.out.alloc _).bel _, .inl ⟨by rw [e]; decide, by rw [e]; rfl⟩⟩
              · have h1b : decide (x1 ≤ y1) = false := decide_eq_false h1
                go_wp2_with (first | (go_at_call 31; ((with_reducible refine (has_b (HA _).out _ hs1.out).mono ?_); rintro e w' ⟨rfl, rfl⟩)) | (go_at_call 31; ((with_reducible refine (has_b (HA' _).out _ hs2.out).mono ?_); rintro e w' ⟨rfl, rfl⟩)))
                go_quiet (fail)
                have q1 := P1.out nq
                have hS2 := Lib.hid (P2.out nq)
                go_wp2
                go_roundw
                case rel => exact ⟨k + 1, by omega, by go_num, next_ok hok (by rw [hbad.out, if_neg (by rw [← atF_isSome, hs1.out]; simp), if_neg e2.out, if_neg (fun h => by have := h.2; omega)]), by rw [hmk.out]; exact hS2⟩
                case measure => simp [intOf]; omega
            · have h3i : decide ((0 : Int) < k) = false := decide_eq_false (by omega)
              go_wp2_with (first | (go_at_call 31; ((with_reducible refine (has_b (HA _).out _ hs1.out).mono ?_); rintro e w' ⟨rfl, rfl⟩)) | (go_at_call 31; ((with_reducible refine (has_b (HA' _).out _ hs2.out).mono ?_); rintro e w' ⟨rfl, rfl⟩)))
              go_quiet (fail)
              have q1 := P1.out nq
              have hS2 := Lib.hid (P2.out nq)
              go_wp2
              go_roundw
              case rel => exact ⟨k + 1, by omega, by go_num, next_ok hok (by rw [hbad.out, if_neg (by rw [← atF_isSome, hs1.out]; simp), if_neg e2.out, if_neg (fun h => by have := h.1; omega)]), by rw [hmk.out]; exact hS2⟩
              case measure => simp [intOf]; omega
    · obtain rfl : k = nc := by omega
      go_wp2
      go_ret2
      exact ⟨hS.out.bel, .inr ⟨mvsF_ok hnc hok, r, rfl, hS.out.map⟩⟩
end Go.Proofs.Ythnmglckhfajeaa
