/- The walks of value.Shuffle and of what it calls. The walk of value.Shuffle. Conditions: none beyond what the claim form gives. -/
import Derived.Test.YtkfmadeeobalaaaDoorEA
import Derived.Test.YtkfmadeeobalaaaDoorLB
import Derived.StillTailTactics
import Derived.Test.YtkfmadeeobalaaaDoorEC
import Derived.BigRegion
namespace Go.Proofs.YtkfmadeeobalaaaDoor
open Go.RowKit
set_option linter.unusedVariables false
/-- A stream's state, a step on; the number at a state. -/
def stepU (x : Int) : Int := IntKind.u64.wrap (x + 11400714819323198485)
def mixA (z : Int) : Int := IntKind.u64.wrap (bits .xor .u64 z (z / 1073741824) * 13787848793156543929)
def mixB (z : Int) : Int := IntKind.u64.wrap (bits .xor .u64 (mixA z) (mixA z / 134217728) * 10723151780598845931)
def mixU (z : Int) : Int := bits .xor .u64 (mixB z) (mixB z / 2147483648)
theorem u64_rng (n : Int) : 0 ≤ IntKind.u64.wrap n ∧ IntKind.u64.wrap n < 18446744073709551616 := by
  simp [IntKind.wrap, IntKind.bits, IntKind.signed]
  omega
theorem xor_rng (x y : Int) : 0 ≤ bits .xor .u64 x y ∧ bits .xor .u64 x y < 18446744073709551616 := by
  show 0 ≤ IntKind.u64.wrap _ ∧ IntKind.u64.wrap _ < _
  exact u64_rng _
theorem mixU_rng (z : Int) : 0 ≤ mixU z ∧ mixU z < 18446744073709551616 := xor_rng _ _
/-- The state behind k steps. -/
def stK (x : Int) : Nat → Int
  | 0 => x
  | k + 1 => stepU (stK x k)
/-- The state that a seed gives, byte by byte. -/
def hashK (s : ByteArray) : Nat → Int
  | 0 => 14695981039346656037
  | k + 1 => IntKind.u64.wrap (bits .xor .u64 (hashK s k) (byt s k) * 1099511628211)
theorem hashK_rng (s : ByteArray) : ∀ k, 0 ≤ hashK s k ∧ hashK s k < 18446744073709551616
  | 0 => by show (0 : Int) ≤ 14695981039346656037 ∧ (14695981039346656037 : Int) < 18446744073709551616; decide
  | k + 1 => by rw [hashK]; exact u64_rng _
theorem stK_rng {x : Int} (h : 0 ≤ x ∧ x < 18446744073709551616) : ∀ k, 0 ≤ stK x k ∧ stK x k < 18446744073709551616
  | 0 => h
  | k + 1 => by rw [stK]; exact u64_rng _
theorem src1_any {w : World} {b : Nat} {x : Int} (hb : Blk w b #[.int .u64 x] 172) (h0 : 0 ≤ x ∧ x < 18446744073709551616) :
    Calls Tryd.prog 142 #[.pointer (some ⟨b, 0, none⟩)] w (fun e w' => e = .returned (.int .u64 (mixU (stepU x))) ∧ w' = w.setCell ⟨b, 0, none⟩ (.int .u64 (stepU x))) := by
  have p0 : w.cell? ⟨b, 0, none⟩ = some (.int .u64 x) := hb.cell 0
  have p1 : w.frozen? ⟨b, 0, none⟩ = false := hb.frz 0
  go_enter Tryd.func142, Tryd.ntmps142
  go_wp2
  go_ret
  exact ⟨rfl, rfl⟩
theorem voutside_b (n lo hi : Int) (w : World) {b : Bool} (h : outB n lo hi = b) :
    Calls Tryd.prog 110 #[.int .i64 n, .int .i64 lo, .int .i64 hi] w fun e w' => e = .returned (.bool b) ∧ w = w' := by
  subst h
  go_enter Tryd.func110, Tryd.ntmps110
  by_cases h : n < lo
  · go_wp2
    go_ret
    exact ⟨by simp [outB, h], rfl⟩
  · go_wp2
    go_ret
    exact ⟨by simp [outB]; omega, rfl⟩
/-- What source hands back: its closure, with the state that the seed gives. -/
def SrcPost (h : Int) (φ : Phi) (w : World) (e : Ending) (w' : World) : Prop :=
  ∃ b, e = .returned (.func (.func 142) #[] #[.pointer (some ⟨b, 0, none⟩)]) ∧ Inv w.heap.size w φ φ w' ∧ Blk w' b #[.int .u64 h] 172 ∧ w.heap.size ≤ b ∧ φ b = none
set_option maxRecDepth 100000 in
theorem source_any (s : ByteArray) (w : World) (φ : Phi) (hφ : Fz φ w) (hs : s.size ≤ 9223372036854775806) :
    Calls Tryd.prog 111 #[.string s] w (SrcPost (hashK s s.size) φ w) := by
  have hS0 : Hid (Inv w.heap.size w φ φ (w.alloc (.cells #[.int .u64 14695981039346656037] 172)) ∧ Blk (w.alloc (.cells #[.int .u64 14695981039346656037] 172)) w.heap.size #[.int .u64 (hashK s 0)] 172) := Lib.hid ⟨(Inv.start hφ).alloc _, Blk.new w _ _⟩
  have hn : φ w.heap.size = none := by
    cases h : φ w.heap.size with
    | none => rfl
    | some o => have := hφ.mlt h; omega
  go_enter Tryd.func111, Tryd.ntmps111
  go_wp2
  generalize w.alloc (.cells #[.int .u64 14695981039346656037] 172) = W at *
  generalize hbx : w.heap.size = bx at *
  replace hbx := Lib.hid hbx
  go_loopw [4] (fun i wr => ∃ k : Nat, k ≤ s.size ∧ i = .int .i64 k ∧ Hid (Inv bx w φ φ wr ∧ Blk wr bx #[.int .u64 (hashK s k)] 172)) (fun i _ => s.size - (intOf i).toNat)
  case atStart => exact ⟨0, Nat.zero_le _, rfl, hS0⟩
  case round =>
    clear hS0
    obtain ⟨k, hk, rfl, hS⟩ := hrel
    by_cases hlt : k < s.size
    · have hb := byt_bd s k
      have hek := Lib.hid (byt_eq s k hlt)
      have hd0 : ((s[k]'hlt).toNat : Int) < 256 := by rw [← hek.out]; omega
      have hd1 : 0 ≤ ((s[k]'hlt).toNat : Int) := by omega
      have p0 : wr.cell? ⟨bx, 0, none⟩ = some (.int .u64 (hashK s k)) := hS.out.2.cell 0
      have p1 : wr.frozen? ⟨bx, 0, none⟩ = false := hS.out.2.frz 0
      have hh := hashK_rng s k
      have HN : Hid (hashK s (k + 1) = IntKind.u64.wrap (bits .xor .u64 (hashK s k) ((s[k]'hlt).toNat : Int) * 1099511628211)) := Lib.hid (by rw [hashK, hek.out])
      generalize hashK s k = h at *
      go_wp2
      go_still_tail 7, (by kernel_rfl)
      change wpList _ _ _ _ _ wr.drew
      go_wp2
      go_roundw
      case rel => exact ⟨k + 1, by omega, by go_num, Lib.hid ⟨(hS.out.1.drewN 1).setCell (by rw [← hbx.out]; exact Nat.le_refl _) hn _, by rw [HN.out]; exact (hS.out.2.drewN 1).set 0 _⟩⟩
      case measure => (simp [intOf] <;> omega)
    · obtain rfl : k = s.size := by omega
      go_wp2
      go_ret
      exact ⟨bx, rfl, by rw [hbx.out]; exact hS.out.1, hS.out.2, by rw [hbx.out]; exact Nat.le_refl _, hn⟩
end Go.Proofs.YtkfmadeeobalaaaDoor

namespace Go.Proofs.YtkfmadeeobalaaaDoor
open Go.RowKit
set_option linter.unusedVariables false
def idL (k : Nat) : List Int := (List.range k).map (fun i : Nat => (i : Int))
theorem idL_succ (k : Nat) : idL (k + 1) = idL k ++ [(k : Int)] := by unfold idL; rw [List.range_succ, List.map_append]; rfl
theorem idL_len (k : Nat) : (idL k).length = k := by unfold idL; simp
def swapL (l : List Int) (i j : Nat) : List Int := (l.set i (l.getD j 0)).set j (l.getD i 0)
theorem swapL_len (l : List Int) (i j : Nat) : (swapL l i j).length = l.length := by unfold swapL; simp
/-- An order behind k swaps. -/
def shufK (h : Int) (n : Nat) : Nat → List Int
  | 0 => idL n
  | k + 1 => swapL (shufK h n k) (n - 1 - k) (mixU (stK h (k + 1)) % ((n - k : Nat) : Int)).toNat
theorem shufK_len (h : Int) (n : Nat) : ∀ k, (shufK h n k).length = n
  | 0 => idL_len n
  | k + 1 => by rw [shufK, swapL_len]; exact shufK_len h n k
theorem swapL_mem {l : List Int} {i j : Nat} {P : Int → Prop} (hi : i < l.length) (hj : j < l.length) (h : ∀ x ∈ l, P x) : ∀ x ∈ swapL l i j, P x := by
  intro x hx
  unfold swapL at hx
  rcases List.mem_or_eq_of_mem_set hx with h1 | h1
  · rcases List.mem_or_eq_of_mem_set h1 with h2 | h2
    · exact h x h2
    · rw [h2, getD_elem0 _ _ _ hj]; exact h _ (List.getElem_mem _)
  · rw [h1, getD_elem0 _ _ _ hi]; exact h _ (List.getElem_mem _)
theorem shuf_j {h : Int} {n k : Nat} (hk : k < n) : (mixU (stK h (k + 1)) % ((n - k : Nat) : Int)).toNat < n - k := by
  have := Int.emod_lt_of_pos (mixU (stK h (k + 1))) (show (0 : Int) < ((n - k : Nat) : Int) by omega)
  have := Int.emod_nonneg (mixU (stK h (k + 1))) (show ((n - k : Nat) : Int) ≠ 0 by omega)
  omega
theorem shufK_rng (h : Int) (n : Nat) : ∀ k, k ≤ n → ∀ x ∈ shufK h n k, 0 ≤ x ∧ x < (n : Int)
  | 0, _ => by
    intro x hx
    unfold shufK idL at hx
    obtain ⟨j, hj, rfl⟩ := List.mem_map.1 hx
    rw [List.mem_range] at hj
    omega
  | k + 1, hk => by
    rw [shufK]
    have := shuf_j (h := h) (show k < n from hk)
    exact swapL_mem (by rw [shufK_len]; omega) (by rw [shufK_len]; omega) (shufK_rng h n k (by omega))
/-- The order of a seed. -/
def shufF (s : ByteArray) (n : Nat) : List Int := shufK (hashK s s.size) n (n - 1)
theorem shufF_len (s : ByteArray) (n : Nat) : (shufF s n).length = n := shufK_len _ _ _
theorem shufF_rng (s : ByteArray) (n : Nat) : ∀ x ∈ shufF s n, 0 ≤ x ∧ x < (n : Int) := shufK_rng _ _ _ (by omega)
/-- A list in the making next to a stream's cell. -/
structure ShSt (w0 : World) (φ : Phi) (b : Nat) (h : Int) (a : Option Addr) (c : Nat) (xs : List Int) (wr : World) : Prop where
  inv : Inv w0.heap.size w0 φ φ wr
  o : Own w0.heap.size φ wr 3 a c xs
  k : Blk wr b #[.int .u64 h] 172
  ne : ∀ x, a = some x → x.block ≠ b
  lo : w0.heap.size ≤ b
  fb : φ b = none
section
variable {w0 wr w' : World} {φ : Phi} {b : Nat} {h : Int} {a a' : Option Addr} {c c' : Nat} {xs xs' : List Int}
theorem ShSt.drewN (s : ShSt w0 φ b h a c xs wr) (q : Nat) : ShSt w0 φ b h a c xs (wr.drewN q) := ⟨s.inv.drewN q, s.o.drewN q, s.k, s.ne, s.lo, s.fb⟩
theorem ShSt.app {o : Obj} (s : ShSt w0 φ b h a c xs wr) (hi : Inv w0.heap.size w0 φ φ w') (ho : Own w0.heap.size φ w' 3 a' c' xs') (hg : (wr.alloc o).grownBy w' (a.map (·.block))) (hf : ∀ x, a' = some x → a.map (·.block) = some x.block ∨ (wr.alloc o).heap.size ≤ x.block) : ShSt w0 φ b h a' c' xs' w' := by
  have hb := s.k.lt
  have hsa : (wr.alloc o).heap.size = wr.heap.size + 1 := alloc_size _ _
  refine ⟨hi, ho, (hg.block b (by omega) (fun e => ?_)).trans (s.k.alloc o), fun x hx e => ?_, s.lo, s.fb⟩
  · cases a with
    | none => cases e
    | some z => exact s.ne z rfl (by simpa using e.symm)
  · rcases hf x hx with q | q
    · cases a with
      | none => cases q
      | some z => exact s.ne z rfl ((by simpa using q : z.block = x.block).trans e)
    · omega
theorem ShSt.step (s : ShSt w0 φ b h a c xs wr) (h' : Int) : ShSt w0 φ b h' a c xs (wr.setCell ⟨b, 0, none⟩ (.int .u64 h')) :=
  ⟨s.inv.setCell s.lo s.fb _, s.o.other (grown_set _ _ _ _) (fun x hx e => s.ne x hx (Option.some.inj e)), s.k.set 0 _, s.ne, s.lo, s.fb⟩
theorem ShSt.put {g off : Nat} {u : Value} (s : ShSt w0 φ b h (some ⟨g, 0, none⟩) c xs wr) (ho : Own w0.heap.size φ (wr.setCell ⟨g, off, none⟩ u) 3 (some ⟨g, 0, none⟩) c xs') (hi : Inv w0.heap.size w0 φ φ (wr.setCell ⟨g, off, none⟩ u)) : ShSt w0 φ b h (some ⟨g, 0, none⟩) c xs' (wr.setCell ⟨g, off, none⟩ u) :=
  ⟨hi, ho, s.k.other (a := ⟨g, off, none⟩) (show g ≠ b from s.ne _ rfl) _, s.ne, s.lo, s.fb⟩
end
def ShPost (l : List Int) (φ : Phi) (w : World) (e : Ending) (w' : World) : Prop :=
  ∃ a cap, e = .returned (.tuple #[.slice a l.length cap, .int .i64 0]) ∧ Inv w.heap.size w φ φ w' ∧ Own w.heap.size φ w' 3 a cap l
set_option maxRecDepth 100000 in
set_option maxHeartbeats 1000000 in
theorem Shuffle_any (s : ByteArray) (n : Nat) (w : World) (φ : Phi) (hφ : Fz φ w) (hs : s.size ≤ 9223372036854775806) (hn : n ≤ 10000) {l : List Int} (hl : Hid (shufF s n = l)) :
    Calls Tryd.prog 73 #[.string s, .int .i64 n] w (ShPost l φ w) := by
  have hob : outB (n : Int) 0 10000 = false := outB_false.2 (by omega)
  obtain ⟨h, hh⟩ : ∃ h, Hid (hashK s s.size = h) := ⟨_, Lib.hid rfl⟩
  have hr := hashK_rng s s.size
  have C := source_any s w φ hφ hs
  rw [hh.out] at C hr
  have hl' : Hid (shufK h n (n - 1) = l) := Lib.hid (by rw [← hl.out, shufF, hh.out])
  go_enter Tryd.func73, Tryd.ntmps73
  go_wp2_with (first
    | (go_at_call 110; refine (voutside_b _ _ _ _ hob).mono ?_; rintro e w' ⟨rfl, rfl⟩)
    | (go_at_call 111; refine C.mono ?_; rintro e w1 ⟨b, rfl, hi1, hk1, hlo1, hb1⟩))
  have HS : Hid (ShSt w φ b h none 0 (idL 0) w1) := Lib.hid ⟨hi1, Own.nil _ _ _ _, hk1, (fun _ h => by cases h), hlo1, hb1⟩
  clear C hi1 hk1 hlo1 hb1
  go_loopw [7, 16] (fun v i wr => ∃ (k : Nat) (ao : Option Addr) (co : Nat), k ≤ n ∧ v = .slice ao k co ∧ i = .int .i64 k ∧ Hid (ShSt w φ b h ao co (idL k) wr)) (fun _ i _ => n - (intOf i).toNat)
  case atStart => exact ⟨0, none, 0, Nat.zero_le _, rfl, rfl, HS⟩
  case round =>
    clear HS
    obtain ⟨k, ao, co, hk, rfl, rfl, hS⟩ := hrel
    by_cases hlt : k < n
    · have hin := Lib.hid hS.out.inv
      have hon := Lib.hid hS.out.o
      have hil := Lib.hid (idL_len k)
      go_wp2_with (at_builtin; (refine wpList_app1F (α := Int) rfl _ _ 32 rfl slI hin.out ao co (idL k) hon.out _ _ (k : Int) rfl (by rw [hil.out]; rfl) 1 rfl (by rw [hil.out]; omega) ?_; intro a8 c8 w8 hi8 ho8 hg8 hf8))
      go_roundw
      case rel => exact ⟨k + 1, a8, c8, by omega, by rw [hil.out], by go_num, by rw [idL_succ]; exact Lib.hid (hS.out.app hi8 ho8 hg8 hf8)⟩
      case measure => (simp [intOf] <;> omega)
    · obtain rfl : k = n := by omega
      have HS : Hid (ShSt w φ b (stK h 0) ao co (shufK h k 0) wr) := hS
      clear hS
      go_wp2
      obtain ⟨n, rfl⟩ : ∃ n, n = k := ⟨k, rfl⟩
      go_loopw [9] (fun i wr => ∃ (k : Nat), k ≤ n - 1 ∧ i = .int .i64 ((n : Int) - 1 - k) ∧ Hid (ShSt w φ b (stK h k) ao co (shufK h n k) wr)) (fun i _ => (intOf i).toNat)
      case atStart => exact ⟨0, Nat.zero_le _, by go_num, HS⟩
      case round =>
        clear HS
        obtain ⟨k, hk, rfl, hS⟩ := hrel
        by_cases hlt : k < n - 1
        · have hst := Lib.hid (stK_rng hr k)
          have hmx := Lib.hid (mixU_rng (stepU (stK h k)))
          obtain ⟨i, hi⟩ : ∃ i, n - 1 - k = i := ⟨_, rfl⟩
          have ek : ((n - k : Nat) : Int) = (i : Int) + 1 := by omega
          have HJ := shuf_j (h := h) (n := n) (k := k) (by omega)
          have h0 := Int.emod_nonneg (mixU (stepU (stK h k))) (show (i : Int) + 1 ≠ 0 by omega)
          have HD : shufK h n (k + 1) = swapL (shufK h n k) (n - 1 - k) (mixU (stepU (stK h k)) % ((n - k : Nat) : Int)).toNat := rfl
          have HJ2 : (mixU (stepU (stK h k)) % ((n - k : Nat) : Int)).toNat < n - k := HJ
          rw [ek] at HD HJ2
          obtain ⟨j, hj⟩ : ∃ j : Nat, mixU (stepU (stK h k)) % ((i : Int) + 1) = j := ⟨(mixU (stepU (stK h k)) % ((i : Int) + 1)).toNat, (Int.toNat_of_nonneg h0).symm⟩
          rw [hj, hi] at HD
          rw [hj] at HJ2
          have hji : j ≤ i := by omega
          have HD := Lib.hid HD
          have ei : (n : Int) - 1 - k = (i : Int) := by omega
          rw [ei]
          have hi1 : (1 : Int) ≤ (i : Int) := by omega
          have hin : i < n := by omega
          have hjn : j < n := by omega
          have hid := Lib.hid ei
          clear HJ HJ2 h0 ek hi ei
          have h1 := hmx.out.1
          have h2 := hmx.out.2
          have C1 := Lib.hid (src1_any hS.out.k hst.out)
          generalize mixU (stepU (stK h k)) = mx at *
          go_wp2_with (go_at_call 142; refine C1.out.mono ?_; rintro e w5 ⟨rfl, rfl⟩)
          clear C1
          have hS2 : Hid (ShSt w φ b (stK h (k + 1)) ao co (shufK h n k) (wr.setCell ⟨b, 0, none⟩ (.int .u64 (stepU (stK h k))))) := Lib.hid (hS.out.step _)
          generalize (wr.setCell ⟨b, 0, none⟩ (.int .u64 (stepU (stK h k)))) = wz at *
          clear hj hmx hst hS h1 h2
          obtain ⟨g, rfl, hgl, fO⟩ := hS2.out.o.intsD (n := n) (Lib.hid (shufK_len _ _ _)) hin
          obtain ⟨ci, fi, si⟩ := fO i hin
          obtain ⟨cj, fj, sj⟩ := fO j hjn
          have HSi := Lib.hid si
          have HSj := Lib.hid sj
          clear si sj fO
          have hsl := Lib.hid (shufK_len h n k)
          have HV : Hid (swapL (shufK h n k) i j = ((shufK h n k).set i ((shufK h n k).getD j 0)).set j ((shufK h n k).getD i 0)) := Lib.hid rfl
          generalize hL : shufK h n k = L at *
          generalize L.getD i 0 = vi at *
          generalize L.getD j 0 = vj at *
          have hin2 : (i : Int) < n := by omega
          have hjn2 : (j : Int) < n := by omega
          have hi0 : (0 : Int) ≤ i := by omega
          have hj0 : (0 : Int) ≤ j := by omega
          clear hL
          have HS3 : Hid (ShSt w φ b (stK h (k + 1)) (some ⟨g, 0, none⟩) co (shufK h n (k + 1)) ((wz.setCell ⟨g, i, none⟩ (.int .i64 vj)).setCell ⟨g, j, none⟩ (.int .i64 vi))) := Lib.hid (by
            obtain ⟨o1, i1⟩ := HSi.out vj w φ hS2.out.inv
            have S1 := hS2.out.put o1 i1
            obtain ⟨g', e', _, f'⟩ := S1.o.intsD (n := n) (Lib.hid ((List.length_set ..).trans hsl.out)) hjn
            cases e'
            obtain ⟨_, _, st⟩ := f' j hjn
            obtain ⟨o2, i2⟩ := st vi w φ S1.inv
            have h := HD.out
            rw [show ((j : Int)).toNat = j by omega, HV.out] at h
            rw [h]
            exact S1.put o2 i2)
          by_cases hij : i = j
          · subst hij
            obtain rfl : vi = vj := by
              have h := ci.symm.trans cj
              cases h
              rfl
            go_region
            go_wp2
            go_roundw
            case rel => exact ⟨k + 1, by omega, congrArg (Value.int .i64) (by have := hid.out; omega), Lib.hid (HS3.out.drewN 1)⟩
            case measure => simp [intOf]; omega
          · go_region
            go_wp2
            go_roundw
            case rel => exact ⟨k + 1, by omega, congrArg (Value.int .i64) (by have := hid.out; omega), Lib.hid (HS3.out.drewN 1)⟩
            case measure => simp [intOf]; omega
        · obtain rfl : k = n - 1 := by omega
          obtain ⟨φ', l', i', s', _⟩ := hS.out.o.release hS.out.inv
          have hlt2 : ¬ ((1 : Int) ≤ (n : Int) - 1 - ((n - 1 : Nat) : Int)) := by omega
          go_wp2
          go_ret2
          obtain rfl := hl'.out
          exact ⟨ao, co, congrArg (fun k => Ending.returned (.tuple #[.slice ao k co, .int .i64 0])) (shufK_len _ _ _).symm, hS.out.inv, hS.out.o⟩
end Go.Proofs.YtkfmadeeobalaaaDoor
