/- The rows of letters and digits of a text: the plain law, and the walks on both sides. Conditions: none beyond what the claim form gives. -/
import Derived.Test.YtapkkplndhbapaaW1
import Derived.Test.YtapkkplndhbapaaHdr
import Derived.Laws.IdiomStrings
namespace Go.Proofs.Ytapkkplndhbapaa
open Go.RowKit
set_option linter.unusedVariables false
instance : Rep UInt8 where
  size := 1
  rep := fun _ x cs => cs = [.int .u8 (x.toNat : Int)]
  len := by intro _ _ _ h; subst h; rfl
  mono := fun _ h => h
  one := by intro _ _ _ h u hu; subst h; simp at hu; subst hu; rfl
def lowN (n : Int) : Int := if 65 ≤ n ∧ n ≤ 90 then n + 32 else n
theorem lowN_bd {n : Int} (h0 : 0 ≤ n) (h1 : n < 256) : 0 ≤ lowN n ∧ lowN n < 256 := by unfold lowN; split <;> omega
def bOf (n : Int) : UInt8 := UInt8.ofNat n.toNat
theorem bOf_n {n : Int} (h0 : 0 ≤ n) (h1 : n < 256) : ((bOf n).toNat : Int) = n := by
  unfold bOf
  rw [UInt8.toNat_ofNat']
  omega
def chr (s : ByteArray) (k : Nat) : Int := if k < s.size then lowN (byt s k) else 0
theorem chr_in {s : ByteArray} {k : Nat} (h : k < s.size) : chr s k = lowN (byt s k) := if_pos h
theorem chr_bd (s : ByteArray) (k : Nat) : 0 ≤ chr s k ∧ chr s k < 256 := by
  unfold chr
  split
  · exact lowN_bd (byt_bd s k).1 (byt_bd s k).2
  · omega
def rowStep (s : ByteArray) (k : Nat) (st : List ByteArray × List UInt8) : List ByteArray × List UInt8 :=
  if wbB (chr s k) = true then (st.1, st.2 ++ [bOf (chr s k)]) else if st.2 = [] then st else (st.1 ++ [⟨st.2.toArray⟩], [])
def rowSt (s : ByteArray) : Nat → List ByteArray × List UInt8
  | 0 => ([], [])
  | k + 1 => rowStep s k (rowSt s k)
def rowsF (s : ByteArray) : List ByteArray := (rowSt s (s.size + 1)).1
theorem rowSt_bd (s : ByteArray) : ∀ k, (rowSt s k).1.length ≤ k ∧ (rowSt s k).2.length ≤ k ∧ ∀ x ∈ (rowSt s k).1, x.size ≤ k
  | 0 => by simp [rowSt]
  | k + 1 => by
    obtain ⟨h1, h2, h3⟩ := rowSt_bd s k
    rw [rowSt, rowStep]
    split
    · refine ⟨by simp; omega, by simp; omega, fun x hx => by have := h3 x hx; omega⟩
    · split
      · exact ⟨by omega, by omega, fun x hx => by have := h3 x hx; omega⟩
      · refine ⟨by simp; omega, by simp, fun x hx => ?_⟩
        rcases List.mem_append.1 hx with hx | hx
        · have := h3 x hx; omega
        · simp at hx
          subst hx
          show (rowSt s k).2.toArray.size ≤ _
          rw [List.size_toArray]; omega
theorem rowsF_bd (s : ByteArray) : (rowsF s).length ≤ s.size + 1 ∧ ∀ x ∈ rowsF s, x.size ≤ s.size + 1 := ⟨(rowSt_bd s _).1, (rowSt_bd s _).2.2⟩
theorem rowSt_word {s : ByteArray} {k : Nat} {o : List ByteArray} {v : List UInt8} (h : Hid (rowSt s k = (o, v))) (hq : wbB (chr s k) = true) : Hid (rowSt s (k + 1) = (o, v ++ [bOf (chr s k)])) := Lib.hid (by rw [rowSt, h.out, rowStep, if_pos hq])
theorem rowSt_skip {s : ByteArray} {k : Nat} {o : List ByteArray} (h : Hid (rowSt s k = (o, []))) (hq : wbB (chr s k) = false) : Hid (rowSt s (k + 1) = (o, [])) := Lib.hid (by rw [rowSt, h.out, rowStep, if_neg (by rw [hq]; simp), if_pos rfl])
theorem rowSt_end {s : ByteArray} {k : Nat} {o : List ByteArray} {v : List UInt8} (h : Hid (rowSt s k = (o, v))) (hq : wbB (chr s k) = false) (hv : v ≠ []) : Hid (rowSt s (k + 1) = (o ++ [⟨v.toArray⟩], [])) := Lib.hid (by rw [rowSt, h.out, rowStep, if_neg (by rw [hq]; simp), if_neg hv])
theorem slS : SliceTy Try.prog 23 9 (.string ⟨#[]⟩) (Rep.size ByteArray) 16 := ⟨Try.underlying23, by kernel_rfl, rfl, by decide, by decide⟩
theorem slB : SliceTy Try.prog 73 5 (.int .u8 0) (Rep.size UInt8) 1 := ⟨Try.underlying73, by kernel_rfl, rfl, by decide, by decide⟩
/-- string(b), of bytes that the call owns. -/
theorem Own.str {B : Nat} {φ : Phi} {w : World} {E : TypeId} {a : Option Addr} {cap : Nat} {l : List UInt8} (h : Own B φ w E a cap l) (h0 : l ≠ []) : (convert 73 9 (.slice a l.length cap)).run Try.prog w = .ok (.string ⟨l.toArray⟩) w := by
  obtain ⟨g, rfl, _, _, _, _, hc⟩ := h.elem (List.length_pos_iff.2 h0)
  refine run_convert_bytes_back w 73 9 5 _ _ l Try.underlying73 Try.underlying5 Try.underlying9 (fun j hj => ?_)
  obtain ⟨cs, hr, hk⟩ := hc j hj
  cases hr
  have := hk 0 (by simp)
  simp [Rep.size] at this
  rw [Addr.add_lit, Nat.zero_add]
  exact this
theorem str_new (w : World) (c : Int) (h0 : 0 ≤ c) (h1 : c < 256) (E : TypeId) : (convert 73 9 (.slice (some ⟨w.heap.size, 0, none⟩) 1 1)).run Try.prog (w.alloc (.cells #[.int .u8 c] E)) = .ok (.string ⟨#[bOf c]⟩) (w.alloc (.cells #[.int .u8 c] E)) := by
  refine run_convert_bytes_back _ 73 9 5 _ _ [bOf c] Try.underlying73 Try.underlying5 Try.underlying9 (fun j hj => ?_)
  have hj0 : j = 0 := by simp at hj; omega
  subst hj0
  rw [Addr.add_lit, Nat.zero_add, box_at 0]
  simp [bOf_n h0 h1]
theorem lower_any (n : Int) (w : World) (h0 : 0 ≤ n) (h1 : n < 256) {m : Int} (hm : Hid (lowN n = m)) :
    Calls Try.prog 33 #[.int .i32 n] w fun e w' => e = .returned (.int .i32 m) ∧ w = w' := by
  go_enter Try.func33, Try.ntmps33
  by_cases h : 65 ≤ n
  · by_cases h2 : n ≤ 90
    · go_wp2
      go_ret
      exact ⟨ret_int (by rw [← hm.out, lowN, if_pos ⟨h, h2⟩]; omega), rfl⟩
    · go_wp2
      go_ret
      exact ⟨ret_int (by rw [← hm.out, lowN, if_neg (by omega)]), rfl⟩
  · go_wp2
    go_ret
    exact ⟨ret_int (by rw [← hm.out, lowN, if_neg (by omega)]), rfl⟩
set_option maxRecDepth 100000 in
set_option maxHeartbeats 1000000 in
theorem rows_any (s : ByteArray) (w : World) (φ : Phi) (hφ : Fz φ w) (hs : s.size ≤ 1000) :
    Calls Try.prog 19 #[.string s] w (SlPost1 (rowsF s) φ w) := by
  go_enter Try.func19, Try.ntmps19
  have hS0 : Hid (Ow2 w φ 9 5 none 0 ([] : List ByteArray) none 0 ([] : List UInt8) w) := Lib.hid ⟨Inv.start hφ, Own.nil _ _ _ _, Own.nil _ _ _ _, fun x y h => by cases h⟩
  go_wp2
  go_loopw [3, 4, 5] (fun o v i wr => ∃ (k : Nat) (ao : Option Addr) (co : Nat) (out : List ByteArray) (av : Option Addr) (cv : Nat) (wd : List UInt8), k ≤ s.size + 1 ∧ o = .slice ao out.length co ∧ v = .slice av wd.length cv ∧ i = .int .i64 k ∧ Hid (rowSt s k = (out, wd)) ∧ out.length ≤ k ∧ wd.length ≤ k ∧ Hid (Ow2 w φ 9 5 ao co out av cv wd wr)) (fun _ _ i _ => s.size + 1 - (intOf i).toNat)
  case atStart => exact ⟨0, none, 0, [], none, 0, [], Nat.zero_le _, rfl, rfl, rfl, Lib.hid rfl, Nat.zero_le _, Nat.zero_le _, hS0⟩
  case round =>
    clear hS0
    obtain ⟨k, ao, co, out, av, cv, wd, hk, rfl, rfl, rfl, hst, hlo, hlw, hS⟩ := hrel
    by_cases hle : k < s.size + 1
    · obtain ⟨q, hq⟩ : ∃ q, Hid (wbB (chr s k) = q) := ⟨_, Lib.hid rfl⟩
      have hin := Lib.hid hS.out.inv
      have hon := Lib.hid hS.out.o2
      have hon1 := Lib.hid hS.out.o1
      by_cases hlt : k < s.size
      · have hb := byt_bd s k
        have hek := Lib.hid (byt_eq s k hlt)
        have hd0 : ((s[k]'hlt).toNat : Int) < 256 := by rw [← hek.out]; omega
        have hd1 : 0 ≤ ((s[k]'hlt).toNat : Int) := by omega
        obtain ⟨m, hm⟩ : ∃ m, Hid (lowN ((s[k]'hlt).toNat : Int) = m) := ⟨_, Lib.hid rfl⟩
        have hm2 := lowN_bd hd1 hd0
        rw [hm.out] at hm2
        have hcm : Hid (chr s k = m) := Lib.hid (by rw [chr_in hlt, hek.out, hm.out])
        rw [hcm.out] at hq
        obtain ⟨hm0, hm1⟩ := hm2
        cases q
        · by_cases hw0 : wd.length = 0
          · have hwd : Hid (wd = []) := Lib.hid (List.eq_nil_of_length_eq_zero hw0)
            go_wp2_with (first
              | (go_at_call 33; refine (lower_any _ _ hd1 hd0 hm).mono ?_; rintro e w' ⟨rfl, rfl⟩)
              | (go_at_call 34; refine (isWordByte_any _ _ hm0 hm1 hq.out).mono ?_; rintro e w' ⟨rfl, rfl⟩))
            go_roundw
            case rel =>
              obtain rfl := hwd.out
              exact ⟨k + 1, ao, co, out, av, cv, [], by omega, rfl, rfl, by go_num, rowSt_skip hst (by rw [hcm.out]; exact hq.out), by omega, by simp, hS⟩
            case measure => (simp [intOf] <;> omega)
          · have hwd : wd ≠ [] := fun h => hw0 (by rw [h]; rfl)
            have hcv := hon.out.str hwd
            have hst2 := rowSt_end hst (by rw [hcm.out]; exact hq.out) hwd
            clear hwd
            generalize (⟨wd.toArray⟩ : ByteArray) = t at *
            go_wp2_with (first
              | (go_at_call 33; refine (lower_any _ _ hd1 hd0 hm).mono ?_; rintro e w' ⟨rfl, rfl⟩)
              | (go_at_call 34; refine (isWordByte_any _ _ hm0 hm1 hq.out).mono ?_; rintro e w' ⟨rfl, rfl⟩)
              | (at_builtin; (refine wpList_app1F (α := ByteArray) rfl _ _ 23 rfl slS hin.out ao co _ hon1.out _ _ t rfl rfl 1 rfl (by omega) ?_; intro a8 c8 w8 hi8 ho8 hg8 hf8)))
            go_roundw
            case rel =>
              exact ⟨k + 1, a8, c8, out ++ [t], none, 0, [], by omega, by simp, rfl, by go_num, hst2, by simp; omega, by simp, Lib.hid ⟨hi8, ho8, Own.nil _ _ _ _, fun x y _ h => by cases h⟩⟩
            case measure => (simp [intOf] <;> omega)
        · go_wp2_with (first
            | (go_at_call 33; refine (lower_any _ _ hd1 hd0 hm).mono ?_; rintro e w' ⟨rfl, rfl⟩)
            | (go_at_call 34; refine (isWordByte_any _ _ hm0 hm1 hq.out).mono ?_; rintro e w' ⟨rfl, rfl⟩)
            | (at_builtin; (refine wpList_app1F (α := UInt8) rfl _ _ 73 rfl slB hin.out av cv _ hon.out _ _ (bOf m) (by show _ = [Value.int .u8 ((bOf m).toNat : Int)]; rw [bOf_n hm0 hm1]) rfl 1 rfl (by omega) ?_; intro a8 c8 w8 hi8 ho8 hg8 hf8)))
          go_roundw
          case rel =>
            exact ⟨k + 1, ao, co, out, a8, c8, wd ++ [bOf m], by omega, rfl, by simp, by go_num, by rw [← hcm.out]; exact rowSt_word hst (by rw [hcm.out]; exact hq.out), by omega, by simp; omega, Lib.hid (Ow2.step1 (hS.out.alloc _).swap hi8 ho8 hg8 hf8).swap⟩
          case measure => (simp [intOf] <;> omega)
      · obtain rfl : k = s.size := by omega
        have hc0 : Hid (chr s s.size = 0) := Lib.hid (by unfold chr; rw [if_neg (by omega)])
        have hq0 : wbB 0 = false := by decide
        have hqf : wbB (chr s s.size) = false := by rw [hc0.out]; exact hq0
        have HQ := Lib.hid hqf
        clear hqf
        by_cases hw0 : wd.length = 0
        · have hwd : Hid (wd = []) := Lib.hid (List.eq_nil_of_length_eq_zero hw0)
          go_wp2_with (go_at_call 34; refine (isWordByte_any _ _ (by decide) (by decide) hq0).mono ?_; rintro e w' ⟨rfl, rfl⟩)
          go_roundw
          case rel =>
            obtain rfl := hwd.out
            exact ⟨s.size + 1, ao, co, out, av, cv, [], by omega, rfl, rfl, by go_num, rowSt_skip hst HQ.out, by omega, by simp, hS⟩
          case measure => (simp [intOf] <;> omega)
        · have hwd : wd ≠ [] := fun h => hw0 (by rw [h]; rfl)
          have hcv := hon.out.str hwd
          have hst2 := rowSt_end hst HQ.out hwd
          clear hwd
          generalize (⟨wd.toArray⟩ : ByteArray) = t at *
          go_wp2_with (first
            | (go_at_call 34; refine (isWordByte_any _ _ (by decide) (by decide) hq0).mono ?_; rintro e w' ⟨rfl, rfl⟩)
            | (at_builtin; (refine wpList_app1F (α := ByteArray) rfl _ _ 23 rfl slS hin.out ao co _ hon1.out _ _ t rfl rfl 1 rfl (by omega) ?_; intro a8 c8 w8 hi8 ho8 hg8 hf8)))
          go_roundw
          case rel =>
            exact ⟨s.size + 1, a8, c8, out ++ [t], none, 0, [], by omega, by simp, rfl, by go_num, hst2, by simp; omega, by simp, Lib.hid ⟨hi8, ho8, Own.nil _ _ _ _, fun x y _ h => by cases h⟩⟩
          case measure => (simp [intOf] <;> omega)
    · obtain rfl : k = s.size + 1 := by omega
      go_wp2
      go_ret
      have e : rowsF s = out := by rw [rowsF, hst.out]
      obtain ⟨φ', _, hi, hs', _⟩ := hS.out.o1.release hS.out.inv
      rw [e]
      exact ⟨ao, co, φ', rfl, hi, hs'⟩
end Go.Proofs.Ytapkkplndhbapaa
