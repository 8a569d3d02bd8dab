/- The walk of the reference's sets. Conditions: none beyond what the claim form gives. -/
import Derived.Test.YtambgcijceecpaaDoorQ10
namespace Go.Proofs.YtambgcijceecpaaDoor
open Go.RowKit
set_option linter.unusedVariables false
/-- The set of fields whose bits a number has. -/
def setK (v k : Nat) : List Int := ((List.range k).filter (fun i : Nat => v.testBit i)).map (fun i : Nat => (i : Int))
theorem setK_t {v k : Nat} (h : v.testBit k = true) : setK v (k + 1) = setK v k ++ [(k : Int)] := by
  have e : List.filter (fun i : Nat => v.testBit i) [k] = [k] := by rw [List.filter_cons_of_pos h]; rfl
  unfold setK; rw [List.range_succ, List.filter_append, List.map_append, e]; rfl
theorem setK_f {v k : Nat} (h : v.testBit k = false) : setK v (k + 1) = setK v k := by
  have e : List.filter (fun i : Nat => v.testBit i) [k] = [] := by rw [List.filter_cons_of_neg (by rw [h]; simp)]; rfl
  unfold setK; rw [List.range_succ, List.filter_append, List.map_append, e]; simp
theorem setK_len (v k : Nat) : (setK v k).length ≤ k := by
  unfold setK; rw [List.length_map]; exact Nat.le_trans (List.length_filter_le _ _) (by simp)
theorem setK_G (v k : Nat) : SetG k (setK v k) := by
  refine ⟨fun j hj => ?_, setK_len v k⟩
  unfold setK at hj
  obtain ⟨i, hi, rfl⟩ := List.mem_map.1 hj
  have := List.mem_range.1 (List.mem_filter.1 hi).1
  omega
def setsK (n k : Nat) : List (List Int) := (List.range k).map (fun v => setK v n)
theorem setsK_succ (n k : Nat) : setsK n (k + 1) = setsK n k ++ [setK k n] := by unfold setsK; rw [List.range_succ, List.map_append]; rfl
theorem setsK_len (n k : Nat) : (setsK n k).length = k := by unfold setsK; simp
theorem bits_and64 {x : Nat} (hx : x < 4294967296) : bits .and .i64 (x : Int) 1 = ((x % 2 : Nat) : Int) := by
  have e : (BitVec.ofInt 64 (x : Int) &&& BitVec.ofInt 64 1).toNat = x % 2 := by
    rw [BitVec.toNat_and, BitVec.toNat_ofInt, BitVec.toNat_ofInt]
    have h1 : ((x : Int) % ((2 ^ 64 : Nat) : Int)).toNat = x := by omega
    have h2 : ((1 : Int) % ((2 ^ 64 : Nat) : Int)).toNat = 1 := by decide
    rw [h1, h2, Nat.and_one_is_mod]
  show IntKind.i64.wrap ((BitVec.ofInt 64 (x : Int) &&& BitVec.ofInt 64 1).toNat : Int) = _
  rw [e]
  exact IntWalk.i64_in _ (by omega)
theorem bit64 {v k : Nat} (hv : v < 4294967296) : bits .and .i64 ((v : Int) / 2 ^ k) 1 = ((v / 2 ^ k % 2 : Nat) : Int) := by
  have e : ((v : Int) / 2 ^ k) = ((v / 2 ^ k : Nat) : Int) := by simp
  rw [e]
  exact bits_and64 (Nat.lt_of_le_of_lt (Nat.div_le_self _ _) hv)
/-- The state of sets. -/
structure SeSt (w0 : World) (φ0 φ : Phi) (bx : Nat) (cs : Array Value) (ao : Option Addr) (co : Nat) (xs : List (List Int)) (al : Option Addr) (cl : Nat) (ys : List Int) (wr : World) : Prop where
  le : φ0.le φ
  new : ∀ b, b < w0.heap.size → φ b = φ0 b
  ow : Ow2 w0 φ 26 3 ao co xs al cl ys wr
  k : Blk wr bx cs 25
  far1 : ∀ x, ao = some x → x.block ≠ bx
  far2 : ∀ x, al = some x → x.block ≠ bx
section
variable {w0 wr w' : World} {φ0 φ : Phi} {bx : Nat} {cs : Array Value} {ao al : Option Addr} {co cl : Nat} {xs : List (List Int)} {ys : List Int}
theorem SeSt.callB (h : SeSt w0 φ0 φ bx cs ao co xs al cl ys wr) (hb : Below wr.heap.size wr w') : SeSt w0 φ0 φ bx cs ao co xs al cl ys w' :=
  ⟨h.le, h.new, h.ow.callB hb, h.k.callB hb, h.far1, h.far2⟩
theorem SeSt.in2 (h : SeSt w0 φ0 φ bx cs ao co xs al cl ys wr) {o : Obj} {a' : Option Addr} {c' : Nat} {ys' : List Int} (hi : Inv w0.heap.size w0 φ φ w') (ho : Own w0.heap.size φ w' 3 a' c' ys') (hg : (wr.alloc o).grownBy w' (al.map (·.block))) (hf : ∀ x, a' = some x → al.map (·.block) = some x.block ∨ (wr.alloc o).heap.size ≤ x.block) : SeSt w0 φ0 φ bx cs ao co xs a' c' ys' w' := by
  have k := h.callB ((Below.refl _ _).alloc (Nat.le_refl _) o)
  obtain ⟨k1, k2⟩ := far_of (w := w0) h.k h.far2 hg hf
  exact ⟨h.le, h.new, (k.ow.swap.step1 hi ho hg hf).swap, k1, h.far1, k2⟩
theorem SeSt.frozen2 (h : SeSt w0 φ0 φ bx cs ao co xs al cl ys wr) : ∃ φ', SeSt w0 φ0 φ' bx cs ao co xs none 0 [] wr ∧ SlV φ' al cl ys := by
  obtain ⟨φ1, l1, n1, i1, o1, s1⟩ := h.ow.rel2
  exact ⟨φ1, ⟨h.le.trans l1, fun b hb => (n1 b hb).trans (h.new b hb), ⟨i1, o1, Own.nil _ _ _ _, fun _ _ _ h => by cases h⟩, h.k, h.far1, fun _ h => by cases h⟩, s1⟩
theorem SeSt.in1 (h : SeSt w0 φ0 φ bx cs ao co xs none 0 [] wr) {o : Obj} {a' : Option Addr} {c' : Nat} {xs' : List (List Int)} (hi : Inv w0.heap.size w0 φ φ w') (ho : Own w0.heap.size φ w' 26 a' c' xs') (hg : (wr.alloc o).grownBy w' (ao.map (·.block))) (hf : ∀ x, a' = some x → ao.map (·.block) = some x.block ∨ (wr.alloc o).heap.size ≤ x.block) : SeSt w0 φ0 φ bx cs a' c' xs' none 0 [] w' := by
  obtain ⟨k1, k2⟩ := far_of (w := w0) h.k h.far1 hg hf
  exact ⟨h.le, h.new, ⟨hi, ho, Own.nil _ _ _ _, fun _ _ _ h => by cases h⟩, k1, k2, fun _ h => by cases h⟩
end
set_option maxRecDepth 100000 in
set_option maxHeartbeats 1000000 in
theorem sets_any
  (n : Nat) (a : Option Addr) (cap : Nat) (fs : List Fld) (m : Nat) (ae : Option Addr) (ce : Nat) (es : List Edt) (ok : Hid (PlOk fs es n m))
    (w : World) (φ : Phi) (hφ : Fz φ w) (s : SlV φ a cap fs) (se : SlV φ ae ce es) :
    Calls Tryd.prog 80 #[.agg #[.slice a n cap, .slice ae m ce]] w (SortPost fs (setsK n (2 ^ n)) φ w) := by
  have hn12 := ok.out.pos
  have hS0 : Hid (SeSt w φ φ w.heap.size #[.slice a n cap, .slice ae m ce] none 0 (setsK n 0) none 0 [] (w.alloc (.cells #[.slice a n cap, .slice ae m ce] 25))) :=
    Lib.hid ⟨φ.le_refl, fun _ _ => rfl, ⟨(Inv.start hφ).alloc _, Own.nil _ _ _ _, Own.nil _ _ _ _, fun _ _ _ h => by cases h⟩, Blk.new w _ _, (fun _ h => by cases h), fun _ h => by cases h⟩
  have hpw : 2 ^ n ≤ 4096 := Nat.le_trans (Nat.pow_le_pow_right (by decide) hn12.2) (by decide)
  obtain ⟨M, hM⟩ : ∃ M, Hid (2 ^ n = M) := ⟨_, Lib.hid rfl⟩
  rw [hM.out] at hpw
  have hMi : (2 : Int) ^ n = (M : Int) := by rw [← hM.out]; simp
  go_enter Tryd.func80, Tryd.ntmps80
  go_wp2
  generalize w.alloc (.cells #[.slice a n cap, .slice ae m ce] 25) = W at *
  generalize hbx : w.heap.size = bx at *
  replace hbx := Lib.hid hbx
  go_loopw [3, 11] (fun vo i wr => ∃ (v : Nat) (φ' : Phi) (ao : Option Addr) (co : Nat), v ≤ M ∧ vo = .slice ao (setsK n v).length co ∧ i = .int .i64 v ∧ Hid (SeSt w φ φ' bx #[.slice a n cap, .slice ae m ce] ao co (setsK n v) none 0 [] wr)) (fun _ i _ => M - (intOf i).toNat)
  case atStart => exact ⟨0, φ, none, 0, Nat.zero_le _, rfl, rfl, hS0⟩
  case round =>
    clear hS0
    obtain ⟨v, φ', ao, co, hv, rfl, rfl, hS⟩ := hrel
    by_cases hlt : v < M
    · have p0 : wr.cell? ⟨bx, 0, none⟩ = some (.slice a n cap) := hS.out.k.cell 0
      have hsk := Lib.hid (setsK_succ n v)
      have hsl := Lib.hid (setsK_len n v)
      go_wp2
      clear p0
      go_loopw [5, 17] (fun vl i wr => ∃ (k : Nat) (al : Option Addr) (cl : Nat), k ≤ n ∧ vl = .slice al (setK v k).length cl ∧ i = .int .i64 k ∧ Hid (SeSt w φ φ' bx #[.slice a n cap, .slice ae m ce] ao co (setsK n v) al cl (setK v k) wr)) (fun _ i _ => n - (intOf i).toNat)
      case atStart => exact ⟨0, none, 0, Nat.zero_le _, rfl, rfl, hS⟩
      case round =>
        clear hS
        obtain ⟨k, al, cl, hk, rfl, rfl, hS⟩ := hrel
        by_cases hlk : k < n
        · have hb := bit64 (v := v) (k := k) (by omega)
          have hkl := Lib.hid (setK_len v k)
          have hbt := Nat.testBit_eq_decide_div_mod_eq (x := v) (i := k)
          have HT := Lib.hid (setK_t (v := v) (k := k))
          have HF := Lib.hid (setK_f (v := v) (k := k))
          have hlt2 : v / 2 ^ k % 2 < 2 := Nat.mod_lt _ (by decide)
          generalize v / 2 ^ k % 2 = bb at *
          by_cases h1 : bb = 1
          · subst h1
            have H2 := Lib.hid (HT.out (by rw [hbt]; rfl))
            have hbb : (bits .and .i64 ((v : Int) / 2 ^ k) 1 == 1) = true := by rw [hb]; rfl
            have hin := Lib.hid hS.out.ow.inv
            have hon := Lib.hid hS.out.ow.o2
            clear hb hbt HT HF hlt2
            go_wp2_with (at_builtin; refine wpList_app1F (α := Int) rfl _ _ 26 rfl slI hin.out al cl _ hon.out _ _ (k : Int) rfl rfl 1 rfl (by have := hkl.out; omega) ?_; intro a3 c3 w4 hi4 ho4 hg4 hf4)
            go_roundw
            case rel => exact ⟨k + 1, a3, c3, by omega, by rw [H2.out]; simp, by go_num, by rw [H2.out]; exact Lib.hid (hS.out.in2 hi4 ho4 hg4 hf4)⟩
            case measure => simp [intOf]; omega
          · have h0 : bb = 0 := by omega
            subst h0
            have H2 := Lib.hid (HF.out (by rw [hbt]; rfl))
            have hbb : (bits .and .i64 ((v : Int) / 2 ^ k) 1 == 1) = false := by rw [hb]; rfl
            clear hb hbt HT HF hlt2
            go_wp2
            go_roundw
            case rel => exact ⟨k + 1, al, cl, by omega, by rw [H2.out], by go_num, by rw [H2.out]; exact hS⟩
            case measure => simp [intOf]; omega
        · obtain rfl : k = n := by omega
          obtain ⟨φ2, hS3, hsl3⟩ := hS.out.frozen2
          have hS3 := Lib.hid hS3
          have hsl3 := Lib.hid hsl3
          have hin := Lib.hid hS3.out.ow.inv
          have hon := Lib.hid hS3.out.ow.o1
          go_wp2_with (at_builtin; refine wpList_app1F (α := List Int) rfl _ _ 40 rfl slLL hin.out ao co _ hon.out _ _ (setK v k) ⟨al, cl, rfl, hsl3.out⟩ rfl 1 rfl (by have := hsl.out; omega) ?_; intro a3 c3 w4 hi4 ho4 hg4 hf4)
          go_roundw
          case rel => exact ⟨v + 1, φ2, a3, c3, by omega, by rw [hsk.out]; simp, by go_num, by rw [hsk.out]; exact Lib.hid (hS3.out.in1 hi4 ho4 hg4 hf4)⟩
          case measure => simp [intOf]; omega
    · obtain rfl : v = M := by omega
      have p0 : wr.cell? ⟨bx, 0, none⟩ = some (.slice a n cap) := hS.out.k.cell 0
      have p1 : wr.cell? ⟨bx, 1, none⟩ = some (.slice ae m ce) := hS.out.k.cell 1
      obtain ⟨φ3, l3, i3, s3, n3⟩ := hS.out.ow.o1.release hS.out.ow.inv
      have hI3 : Hid (Inv w.heap.size w φ φ3 wr) := Lib.hid ⟨i3.bel, i3.base, i3.fz, hS.out.le.trans l3, fun b hb => (i3.new b hb).trans (hS.out.new b hb)⟩
      have hsl := Lib.hid (setsK_len n v)
      have hgs : Hid (∀ l ∈ setsK n v, SetG n l) := Lib.hid (fun l hl => by
        unfold setsK at hl
        obtain ⟨u, _, rfl⟩ := List.mem_map.1 hl
        exact setK_G u n)
      rw [hM.out]
      rw [hsl.out]
      clear i3 n3 hS
      go_wp2_with fail
      refine (sorted_any n a cap fs m ae ce es ok v hpw (setsK n v) (by rw [hsl.out]; exact Nat.le_refl _) v hsl wr φ3 hI3.out.fz (s.mono hI3.out.le) (se.mono hI3.out.le) _ co s3 hgs).mono ?_
      rintro e w5 ⟨rs, φ5, a5, c5, rfl, hi5, s5, p5, o5⟩
      have hI5 := Lib.hid (hI3.out.call hi5)
      clear hi5 p0 p1
      go_wp2
      go_ret
      exact ⟨rs, φ5, a5, c5, rfl, hI5.out, s5, by rw [hM.out]; exact p5, o5⟩
end Go.Proofs.YtambgcijceecpaaDoor
