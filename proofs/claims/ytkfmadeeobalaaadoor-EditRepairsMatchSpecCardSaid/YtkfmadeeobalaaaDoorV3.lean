/- The walks of the reference's Stream and Shuffle. Conditions: none beyond what the claim form gives. -/
import Derived.Test.YtkfmadeeobalaaaDoorVV
namespace Go.Proofs.YtkfmadeeobalaaaDoor
open Go.RowKit
set_option linter.unusedVariables false
structure U64 where
  v : Int
instance : Rep U64 where
  size := 1
  rep := fun _ x cs => cs = [.int .u64 x.v]
  len := by intro _ _ _ h; subst h; rfl
  mono := fun _ h => h
  one := by intro _ _ _ h u hu; subst h; simp at hu; subst hu; rfl
theorem slU64 : SliceTy Tryd.prog 175 172 (.int .u64 0) (Rep.size U64) 8 := ⟨Tryd.underlying175, by kernel_rfl, rfl, by decide, by decide⟩
theorem SlV.u64D {φ : Phi} {a : Option Addr} {cap : Nat} {xs : List U64} (h : SlV φ a cap xs) {k n : Nat} (hn : Hid (xs.length = n)) (hk : k < n) :
    ∃ b off, a = some ⟨b, off, none⟩ ∧ ∀ k, k < n → ∀ w, Fz φ w → b < w.heap.size ∧ w.cell? ⟨b, off + k, none⟩ = some (.int .u64 (xs.getD k ⟨0⟩).v) := by
  obtain ⟨b, off, ha, hc⟩ := h.cellsD ⟨0⟩ hn hk
  refine ⟨b, off, ha, fun k hk w hw => ?_⟩
  obtain ⟨cs, hr, hj⟩ := hc k hk
  cases hr
  have j0 := hj 0 (by simp)
  simp [Rep.size] at j0
  exact ⟨hw.lt j0, hw.cell j0⟩
/-- The numbers of a stream. -/
def strL (h : Int) (n : Nat) : List U64 := (List.range n).map (fun k : Nat => U64.mk (mixU (stK h (k + 1))))
theorem strL_succ (h : Int) (n : Nat) : strL h (n + 1) = strL h n ++ [U64.mk (mixU (stK h (n + 1)))] := by unfold strL; rw [List.range_succ, List.map_append]; rfl
theorem strL_len (h : Int) (n : Nat) : (strL h n).length = n := by unfold strL; simp
theorem strL_at {h : Int} {n k : Nat} (hk : k < n) : (strL h n).getD k ⟨0⟩ = U64.mk (mixU (stK h (k + 1))) := by
  rw [getD_elem0 _ _ _ (by rw [strL_len]; exact hk)]; unfold strL; rw [List.getElem_map, List.getElem_range]
theorem rwithin_b (n lo hi : Int) (w : World) {b : Bool} (h : outB n lo hi = b) :
    Calls Tryd.prog 127 #[.int .i64 n, .int .i64 lo, .int .i64 hi] w fun e w' => e = .returned (.bool (!b)) ∧ w = w' := by
  subst h
  go_enter Tryd.func127, Tryd.ntmps127
  by_cases h : lo ≤ n
  · go_wp2
    go_ret
    exact ⟨ret_bool (by unfold outB; rw [Bool.eq_iff_iff]; simp; omega), rfl⟩
  · go_wp2
    go_ret
    exact ⟨ret_bool (by unfold outB; rw [Bool.eq_iff_iff]; simp; omega), rfl⟩
def StPost (h : Int) (n : Nat) (φ : Phi) (w : World) (e : Ending) (w' : World) : Prop :=
  ∃ a cap, e = .returned (.tuple #[.slice a n cap, .int .i64 0]) ∧ Inv w.heap.size w φ φ w' ∧ Own w.heap.size φ w' 172 a cap (strL h n)
set_option maxRecDepth 100000 in
set_option maxHeartbeats 1000000 in
theorem Stream_any (s : ByteArray) (n : Nat) (w : World) (φ : Phi) (hφ : Fz φ w) (hs : s.size ≤ 9223372036854775806) (hn : n ≤ 10000) :
    Calls Tryd.prog 116 #[.string s, .int .i64 n] w (StPost (hashK s s.size) n φ w) := by
  have hob : outB (n : Int) 0 10000 = false := outB_false.2 (by omega)
  have HI := Lib.hid (Inv.start hφ)
  go_enter Tryd.func116, Tryd.ntmps116
  go_wp2_with (go_at_call 127; refine (rwithin_b _ _ _ _ hob).mono ?_; rintro e w' ⟨rfl, rfl⟩)
  go_loop [6, 15] (fun v i => ∃ k : Nat, k ≤ s.size ∧ v = .int .u64 (hashK s k) ∧ i = .int .i64 k) (fun _ i => s.size - (intOf i).toNat)
  case atStart => exact ⟨0, Nat.zero_le _, rfl, rfl⟩
  case round =>
    obtain ⟨k, hk, rfl, rfl⟩ := hrel
    by_cases hlt : k < s.size
    · have hb := byt_bd s k
      have hek := Lib.hid (byt_eq s k hlt)
      have hd0 : ((s[k]'hlt).toNat : Int) < 256 := by rw [← hek.out]; omega
      have hd1 : 0 ≤ ((s[k]'hlt).toNat : Int) := by omega
      have hh := hashK_rng s k
      have HN : Hid (hashK s (k + 1) = IntKind.u64.wrap (bits .xor .u64 (hashK s k) ((s[k]'hlt).toNat : Int) * 1099511628211)) := Lib.hid (by rw [hashK, hek.out])
      generalize hashK s k = h at *
      go_wp2
      go_round
      case rel => exact ⟨k + 1, by omega, by rw [HN.out], by go_num⟩
      case measure => (simp [intOf] <;> omega)
    · obtain rfl : k = s.size := by omega
      have hr := hashK_rng s s.size
      generalize hashK s s.size = h at *
      go_wp2
      have hS0 : Hid (Inv w.heap.size w φ φ w ∧ Own w.heap.size φ w 172 none 0 (strL h 0)) := Lib.hid ⟨HI.out, Own.nil _ _ _ _⟩
      go_loopw [6, 8, 27] (fun x v i wr => ∃ (k : Nat) (ao : Option Addr) (co : Nat), k ≤ n ∧ x = .int .u64 (stK h k) ∧ v = .slice ao k co ∧ i = .int .i64 k ∧ Hid (Inv w.heap.size w φ φ wr ∧ Own w.heap.size φ wr 172 ao co (strL h k))) (fun _ _ i _ => n - (intOf i).toNat)
      case atStart => exact ⟨0, none, 0, Nat.zero_le _, rfl, rfl, rfl, hS0⟩
      case round =>
        clear hS0 HI
        obtain ⟨k, ao, co, hk, rfl, rfl, rfl, hS⟩ := hrel
        by_cases hlt : k < n
        · have hst := stK_rng hr k
          have HX : Hid (stK h (k + 1) = stepU (stK h k)) := Lib.hid rfl
          have hil := Lib.hid (strL_len h k)
          have HL := Lib.hid (strL_succ h k)
          have hin := Lib.hid hS.out.1
          have hon := Lib.hid hS.out.2
          generalize stK h k = x at *
          go_wp2_with (at_builtin; (refine wpList_app1F (α := U64) rfl _ _ 175 rfl slU64 hin.out ao co (strL h k) hon.out _ _ (U64.mk (mixU (stepU x))) rfl (by rw [hil.out]; rfl) 1 rfl (by rw [hil.out]; omega) ?_; intro a8 c8 w8 hi8 ho8 hg8 hf8))
          go_roundw
          case rel => exact ⟨k + 1, a8, c8, by omega, by rw [HX.out]; rfl, by rw [hil.out], by go_num, by rw [HL.out, HX.out]; exact Lib.hid ⟨hi8, ho8⟩⟩
          case measure => (simp [intOf] <;> omega)
        · obtain rfl : k = n := by omega
          go_wp2
          go_ret2
          exact ⟨ao, co, rfl, hS.out.1, hS.out.2⟩
set_option maxRecDepth 100000 in
set_option maxHeartbeats 1000000 in
theorem RShuffle_any (s : ByteArray) (n : Nat) (w : World) (φ : Phi) (hφ : Fz φ w) (hs : s.size ≤ 9223372036854775806) (hn : n ≤ 10000) {l : List Int} (hl : Hid (shufF s n = l)) :
    Calls Tryd.prog 84 #[.string s, .int .i64 n] w (ShPost l φ w) := by
  obtain ⟨h, hh⟩ : ∃ h, Hid (hashK s s.size = h) := ⟨_, Lib.hid rfl⟩
  have hr := hashK_rng s s.size
  have C := Stream_any s n w φ hφ hs hn
  rw [hh.out] at C hr
  have hl' : Hid (shufK h n (n - 1) = l) := Lib.hid (by rw [← hl.out, shufF, hh.out])
  go_enter Tryd.func84, Tryd.ntmps84
  go_wp2_with (go_at_call 116; refine C.mono ?_; rintro e w1 ⟨a1, c1, rfl, hi1, ho1⟩)
  obtain ⟨φ1, l1, i1, s1, _⟩ := ho1.release hi1
  have S1 := Lib.hid s1
  have L1 := Lib.hid i1
  have HS : Hid (Inv w.heap.size w φ1 φ1 w1 ∧ Own w.heap.size φ1 w1 3 none 0 (idL 0)) := Lib.hid ⟨i1.toSelf, Own.nil _ _ _ _⟩
  clear C hi1 ho1 l1 i1 s1
  go_loopw [8, 22] (fun v i wr => ∃ (k : Nat) (ao : Option Addr) (co : Nat), k ≤ n ∧ v = .slice ao k co ∧ i = .int .i64 k ∧ Hid (Inv w.heap.size w φ1 φ1 wr ∧ Own w.heap.size φ1 wr 3 ao co (idL k))) (fun _ i _ => n - (intOf i).toNat)
  case atStart => exact ⟨0, none, 0, Nat.zero_le _, rfl, rfl, HS⟩
  case round =>
    clear HS
    obtain ⟨k, ao, co, hk, rfl, rfl, hS⟩ := hrel
    by_cases hlt : k < n
    · have hin := Lib.hid hS.out.1
      have hon := Lib.hid hS.out.2
      have hil := Lib.hid (idL_len k)
      go_wp2_with (at_builtin; (refine wpList_app1F (α := Int) rfl _ _ 32 rfl slI hin.out ao co (idL k) hon.out _ _ (k : Int) rfl (by rw [hil.out]; rfl) 1 rfl (by rw [hil.out]; omega) ?_; intro a8 c8 w8 hi8 ho8 hg8 hf8))
      go_roundw
      case rel => exact ⟨k + 1, a8, c8, by omega, by rw [hil.out], by go_num, by rw [idL_succ]; exact Lib.hid ⟨hi8, ho8⟩⟩
      case measure => (simp [intOf] <;> omega)
    · obtain rfl : k = n := by omega
      have HS : Hid (Inv w.heap.size w φ1 φ1 wr ∧ Own w.heap.size φ1 wr 3 ao co (shufK h k 0)) := hS
      clear hS
      go_wp2
      obtain ⟨n, rfl⟩ : ∃ n, n = k := ⟨k, rfl⟩
      go_loopw [10] (fun i wr => ∃ (k : Nat), k ≤ n - 1 ∧ i = .int .i64 ((n : Int) - 1 - k) ∧ Hid (Inv w.heap.size w φ1 φ1 wr ∧ Own w.heap.size φ1 wr 3 ao co (shufK h n k))) (fun i _ => (intOf i).toNat)
      case atStart => exact ⟨0, Nat.zero_le _, by go_num, HS⟩
      case round =>
        clear HS
        obtain ⟨k, hk, rfl, hS⟩ := hrel
        by_cases hlt : k < n - 1
        · have hmx := Lib.hid (mixU_rng (stK h (k + 1)))
          obtain ⟨i, hi⟩ : ∃ i, n - 1 - k = i := ⟨_, rfl⟩
          have ek : ((n - k : Nat) : Int) = (i : Int) + 1 := by omega
          have HJ2 := shuf_j (h := h) (n := n) (k := k) (by omega)
          have h0 := Int.emod_nonneg (mixU (stK h (k + 1))) (show (i : Int) + 1 ≠ 0 by omega)
          have HD : shufK h n (k + 1) = swapL (shufK h n k) (n - 1 - k) (mixU (stK h (k + 1)) % ((n - k : Nat) : Int)).toNat := rfl
          rw [ek] at HD HJ2
          obtain ⟨j, hj⟩ : ∃ j : Nat, mixU (stK h (k + 1)) % ((i : Int) + 1) = j := ⟨(mixU (stK h (k + 1)) % ((i : Int) + 1)).toNat, (Int.toNat_of_nonneg h0).symm⟩
          rw [hj, hi] at HD
          rw [hj] at HJ2
          have hji : j ≤ i := by omega
          have HD := Lib.hid HD
          have ei : (n : Int) - 1 - k = (i : Int) := by omega
          rw [ei]
          have hi1 : (1 : Int) ≤ (i : Int) := by omega
          have hin : i < n := by omega
          have hjn : j < n := by omega
          have hid := Lib.hid ei
          obtain ⟨bs, os, ha1, fs⟩ := S1.out.u64D (Lib.hid (strL_len h n)) (k := k) (by omega)
          have ds := (fs k (by omega) wr hS.out.1.fz).2
          rw [strL_at (show k < n by omega)] at ds
          dsimp only at ds
          subst ha1
          have hkn : (k : Int) < n := by omega
          have eki : (n : Int) - 1 - (i : Int) = k := by omega
          have h1 := hmx.out.1
          have h2 := hmx.out.2
          clear HJ2 h0 ek hi ei fs
          generalize mixU (stK h (k + 1)) = mx at *
          go_wp2
          clear hj hmx h1 h2 ds
          obtain ⟨g, rfl, hgl, fO⟩ := hS.out.2.intsD (n := n) (Lib.hid (shufK_len _ _ _)) hin
          obtain ⟨ci, fi, si⟩ := fO i hin
          obtain ⟨cj, fj, sj⟩ := fO j hjn
          have HSi := Lib.hid si
          clear si sj fO
          have hsl := Lib.hid (shufK_len h n k)
          have HV : Hid (swapL (shufK h n k) i j = ((shufK h n k).set i ((shufK h n k).getD j 0)).set j ((shufK h n k).getD i 0)) := Lib.hid rfl
          generalize hL : shufK h n k = L at *
          generalize L.getD i 0 = vi at *
          generalize L.getD j 0 = vj at *
          have hin2 : (i : Int) < n := by omega
          have hjn2 : (j : Int) < n := by omega
          have hi0 : (0 : Int) ≤ i := by omega
          have hj0 : (0 : Int) ≤ j := by omega
          have hi3 := hi1
          clear hL
          have HS3 : Hid (Inv w.heap.size w φ1 φ1 ((wr.setCell ⟨g, i, none⟩ (.int .i64 vj)).setCell ⟨g, j, none⟩ (.int .i64 vi)) ∧ Own w.heap.size φ1 ((wr.setCell ⟨g, i, none⟩ (.int .i64 vj)).setCell ⟨g, j, none⟩ (.int .i64 vi)) 3 (some ⟨g, 0, none⟩) co (shufK h n (k + 1))) := Lib.hid (by
            obtain ⟨o1, i1⟩ := HSi.out vj w φ1 hS.out.1
            obtain ⟨g', e', _, f'⟩ := o1.intsD (n := n) (Lib.hid ((List.length_set ..).trans hsl.out)) hjn
            cases e'
            obtain ⟨_, _, st⟩ := f' j hjn
            obtain ⟨o2, i2⟩ := st vi w φ1 i1
            have h := HD.out
            rw [show ((j : Int)).toNat = j by omega, HV.out] at h
            rw [h]
            exact ⟨i2, o2⟩)
          by_cases hij : i = j
          · subst hij
            obtain rfl : vi = vj := by
              have h := ci.symm.trans cj
              cases h
              rfl
            go_region
            go_wp2
            go_roundw
            case rel => exact ⟨k + 1, by omega, congrArg (Value.int .i64) (by have := hid.out; omega), Lib.hid ⟨HS3.out.1.drewN 1, HS3.out.2.drewN 1⟩⟩
            case measure => simp [intOf]; omega
          · go_region
            go_wp2
            go_roundw
            case rel => exact ⟨k + 1, by omega, congrArg (Value.int .i64) (by have := hid.out; omega), Lib.hid ⟨HS3.out.1.drewN 1, HS3.out.2.drewN 1⟩⟩
            case measure => simp [intOf]; omega
        · obtain rfl : k = n - 1 := by omega
          have hlt2 : ¬ ((1 : Int) ≤ (n : Int) - 1 - ((n - 1 : Nat) : Int)) := by omega
          go_wp2
          go_ret2
          obtain rfl := hl'.out
          exact ⟨ao, co, congrArg (fun k => Ending.returned (.tuple #[.slice ao k co, .int .i64 0])) (shufK_len _ _ _).symm, ⟨hS.out.1.bel, hS.out.1.base, hS.out.1.fz.sub L1.out.le, φ.le_refl, fun _ _ => rfl⟩, hS.out.2.ints (fun x hx => by
            have h := hS.out.2.free x hx
            cases hq : φ x.block with
            | none => rfl
            | some o => rw [L1.out.le _ _ hq] at h; cases h)⟩
end Go.Proofs.YtkfmadeeobalaaaDoor
