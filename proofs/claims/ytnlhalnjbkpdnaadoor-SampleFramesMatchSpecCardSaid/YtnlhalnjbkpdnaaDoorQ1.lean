/- The walk of the reference's IsName, over the library's Fields by its contract. Conditions: the library's table of blanks reads as it was laid (the row's own condition). -/
import Derived.Test.YtnlhalnjbkpdnaaDoorE1
import Derived.Test.YtnlhalnjbkpdnaaDoorSh1
import Derived.Test.YtnlhalnjbkpdnaaDoorHdr
import Derived.Test.YtnlhalnjbkpdnaaDoorSix
namespace Go.Proofs.YtnlhalnjbkpdnaaDoor
open Go.RowKit
set_option linter.unusedVariables false
set_option linter.unusedSimpArgs false

/-- The library's table of blanks, in the frozen heap. -/
def TabP (φ : Phi) : Prop := ∀ c : Nat, c < 256 → φ.cell? ⟨0, c, none⟩ = some (.int .u8 (if Lib.isSp (UInt8.ofNat c) then 1 else 0))
theorem TabP.mono {φ φ' : Phi} (h : TabP φ) (hl : φ.le φ') : TabP φ' := fun c hc => hl.cell (h c hc)
theorem wordByte_any (n : Int) (w : World) (h0 : 0 ≤ n) (h1 : n < 256) {b : Bool} (h : wrdB n = b) :
    Calls Tryd.prog 27 #[.int .u8 n] w fun e w' => e = .returned (.bool b) ∧ w = w' := by
  subst h
  go_enter Tryd.func27, Tryd.ntmps27
  go_wp2
  all_goals
    go_ret
    exact ⟨ret_bool (by unfold wrdB lowB; rw [Bool.eq_iff_iff]; simp; omega), rfl⟩
/-- The words that are no names, as a list. -/
def resW : List ByteArray := [⟨#[97, 110, 100]⟩, ⟨#[111, 114]⟩, ⟨#[110, 111, 116]⟩, ⟨#[105, 110]⟩, ⟨#[104, 97, 115]⟩, ⟨#[109, 111, 100]⟩, ⟨#[116, 114, 117, 101]⟩, ⟨#[102, 97, 108, 115, 101]⟩]
def resT : ByteArray := ⟨#[97, 110, 100, 32, 111, 114, 32, 110, 111, 116, 32, 105, 110, 32, 104, 97, 115, 32, 109, 111, 100, 32, 116, 114, 117, 101, 32, 102, 97, 108, 115, 101]⟩
theorem ba_eq (s : ByteArray) (l : List UInt8) : (s = ⟨l.toArray⟩) ↔ (s.toList == l) = true := by
  rw [beq_iff_eq, ByteArray.toList_eq]
  constructor
  · rintro rfl; simp
  · intro h
    obtain ⟨⟨x⟩⟩ := s
    have : x = l := h
    rw [this]
theorem resv_mem (s : ByteArray) : decide (s ∈ resW) = resv s := by
  rw [Bool.eq_iff_iff, decide_eq_true_iff]
  unfold resW resv
  simp only [List.mem_cons, List.not_mem_nil, or_false, Bool.or_eq_true]
  rw [ba_eq s [97, 110, 100], ba_eq s [111, 114], ba_eq s [110, 111, 116], ba_eq s [105, 110], ba_eq s [104, 97, 115], ba_eq s [109, 111, 100], ba_eq s [116, 114, 117, 101], ba_eq s [102, 97, 108, 115, 101]]
  simp only [or_assoc]
theorem res_fields : (Lib.fields resT.data.toList) = resW.map (fun b => b.data.toList) := by decide
theorem res_ascii : ∀ (j : Nat) (b : UInt8), resT.data.toList[j]? = some b → b.toNat < 128 := by
  have h : ∀ b ∈ resT.data.toList, b.toNat < 128 := by decide
  exact fun j b hj => h b (List.mem_of_getElem? hj)
def FieldsPost (φ : Phi) (w : World) (e : Ending) (w' : World) : Prop := ∃ φ' a, e = .returned (.slice a 8 8) ∧ Inv w.heap.size w φ φ' w' ∧ SlV φ' a 8 resW
theorem Fields_res (w : World) (φ : Phi) (hφ : Fz φ w) (ht : TabP φ) : Calls Tryd.prog 26 #[.string resT] w (FieldsPost φ w) := by
  refine (Any.strings_Fields_core Tryd.lays157 (by kernel_rfl) resT w (by decide) res_ascii (fun c hc => hφ.cell (ht c hc))).mono ?_
  rintro e w' ⟨rfl, rfl⟩
  obtain ⟨φ', h1, h2, h3⟩ := SlV.lit (α := ByteArray) hφ 9 (xs := resW) (arr := ((Lib.fields resT.data.toList).map fun l => Value.string ⟨l.toArray⟩).toArray) (by
    rw [res_fields]
    refine ⟨_, _, rfl, rfl, _, _, rfl, rfl, _, _, rfl, rfl, _, _, rfl, rfl, _, _, rfl, rfl, _, _, rfl, rfl, _, _, rfl, rfl, _, _, rfl, rfl, rfl⟩) (by decide)
  exact ⟨φ', _, by rw [res_fields]; rfl, h2, h3⟩
set_option maxRecDepth 100000 in
set_option maxHeartbeats 1000000 in
theorem RIsName_any (s : ByteArray) (w : World) (φ : Phi) (hφ : Fz φ w) (ht : TabP φ) (hs : s.size ≤ reachBytes) {b : Bool} (h : Hid (nameB s = b)) :
    Calls Tryd.prog 15 #[.string s] w (fun e w' => e = .returned (.bool b) ∧ Below w.heap.size w w') := by
  by_cases hz : s.size = 0
  · have he : s.toList.isEmpty = true := by rw [isEmpty_iff]; simp [hz]
    have he2 : s.toList = [] := List.isEmpty_iff.1 he
    have HZ := Lib.hid hz
    clear hz
    go_enter Tryd.func15, Tryd.ntmps15
    go_wp2
    go_ret
    exact ⟨ret_bool ((nameB_false (fun h => by have := h.1; have := HZ.out; omega)).symm.trans h.out), Below.refl _ _⟩
  have he : s.toList.isEmpty = false := by rw [isEmpty_iff]; simp [hz]
  have hp : 0 < s.size := by omega
  by_cases h16 : 16 < s.size
  · unfold reachBytes at hs
    go_enter Tryd.func15, Tryd.ntmps15
    go_wp2
    go_ret
    exact ⟨ret_bool ((nameB_false (fun h => by have := h.2.1; omega)).symm.trans h.out), Below.refl _ _⟩
  have hc := byt_bd s 0
  have b0 := Lib.hid (byt_eq s 0 hp)
  have hc0 : ((s[0]'hp).toNat : Int) < 256 := by rw [← b0.out]; omega
  have hc1 : 0 ≤ ((s[0]'hp).toNat : Int) := by omega
  clear hs hz
  by_cases l1 : ((s[0]'hp).toNat : Int) < 97
  · go_enter Tryd.func15, Tryd.ntmps15
    go_wp2
    go_ret
    exact ⟨ret_bool ((nameB_false (fun h => by have := h.2.2.1; rw [b0.out] at this; unfold lowB at this; simp at this; omega)).symm.trans h.out), Below.refl _ _⟩
  by_cases l2 : 122 < ((s[0]'hp).toNat : Int)
  · go_enter Tryd.func15, Tryd.ntmps15
    go_wp2
    go_ret
    exact ⟨ret_bool ((nameB_false (fun h => by have := h.2.2.1; rw [b0.out] at this; unfold lowB at this; simp at this; omega)).symm.trans h.out), Below.refl _ _⟩
  have hl0 : Hid (lowB ((s[0]'hp).toNat : Int) = true) := Lib.hid (by unfold lowB; simp; omega)
  obtain ⟨r0, hr0⟩ : ∃ b, Hid (resv s = b) := ⟨_, Lib.hid rfl⟩
  have hrm : Hid (decide (s ∈ resW) = r0) := Lib.hid ((resv_mem s).trans hr0.out)
  have hrl : Hid (resW.length = 8) := Lib.hid rfl
  have hT : Hid (TabP φ) := Lib.hid ht
  clear ht
  go_enter Tryd.func15, Tryd.ntmps15
  cases r0
  case true =>
    go_wp2_with (first | (go_at_call 26; refine (Fields_res w φ hφ hT.out).mono ?_; rintro e w1 ⟨φ1, a1, rfl, hi1, s1⟩) | (go_at_call 25; refine (ContainsS_b 8 a1 8 resW s w1 φ1 hi1.fz s1 hrl (by omega) hrm).mono ?_; rintro e w' ⟨rfl, rfl⟩))
    go_ret
    exact ⟨ret_bool ((nameB_false (fun h => by have := h.2.2.2.1; rw [hr0.out] at this; cases this)).symm.trans h.out), hi1.bel⟩
  go_wp2_with (first | (go_at_call 26; refine (Fields_res w φ hφ hT.out).mono ?_; rintro e w1 ⟨φ1, a1, rfl, hi1, s1⟩) | (go_at_call 25; refine (ContainsS_b 8 a1 8 resW s w1 φ1 hi1.fz s1 hrl (by omega) hrm).mono ?_; rintro e w' ⟨rfl, rfl⟩))
  have hB := Lib.hid hi1.bel
  clear hi1 s1
  go_loop [28] (fun i => ∃ k : Nat, k ≤ s.size ∧ i = .int .i64 k ∧ Hid (∀ i, i < k → wrdB (byt s i) = true)) (fun i => s.size - (intOf i).toNat)
  case atStart => exact ⟨0, Nat.zero_le _, rfl, Lib.hid (fun i hi => by omega)⟩
  case round =>
    obtain ⟨k, hk, rfl, hok⟩ := hrel
    by_cases hlt : k < s.size
    · have hb := byt_bd s k
      have hek := Lib.hid (byt_eq s k hlt)
      have hd0 : ((s[k]'hlt).toNat : Int) < 256 := by rw [← hek.out]; omega
      have hd1 : 0 ≤ ((s[k]'hlt).toNat : Int) := by omega
      obtain ⟨o, ho⟩ : ∃ o, Hid (wrdB ((s[k]'hlt).toNat : Int) = o) := ⟨_, Lib.hid rfl⟩
      cases o
      · go_wp2_with (go_at_call 27; refine (wordByte_any _ _ hd1 hd0 ho.out).mono ?_; rintro e w' ⟨rfl, rfl⟩)
        go_ret
        exact ⟨ret_bool ((nameB_false (fun h => by have := h.2.2.2.2 k hlt; rw [hek.out, ho.out] at this; cases this)).symm.trans h.out), hB.out⟩
      · go_wp2_with (go_at_call 27; refine (wordByte_any _ _ hd1 hd0 ho.out).mono ?_; rintro e w' ⟨rfl, rfl⟩)
        go_round
        case rel => exact ⟨k + 1, by omega, by go_num, Lib.hid (fun i hi => by
          by_cases e : i = k
          · subst e; rw [hek.out]; exact ho.out
          · exact hok.out i (by omega))⟩
        case measure => (simp [intOf] <;> omega)
    · obtain rfl : k = s.size := by omega
      go_wp2
      go_ret
      exact ⟨ret_bool ((nameB_true ⟨hp, by omega, by rw [b0.out]; exact hl0.out, hr0.out, hok.out⟩).symm.trans h.out), hB.out⟩
end Go.Proofs.YtnlhalnjbkpdnaaDoor
