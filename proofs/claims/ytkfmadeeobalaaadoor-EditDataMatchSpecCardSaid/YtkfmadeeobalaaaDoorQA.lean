/- The walk of the reference's IsName, over the library's Fields by its contract. Conditions: the library's table of blanks reads as it was laid (the row's own condition). The walks of the reference's within, checkField, checkEdit. Conditions: the library's table of blanks reads as it was laid. The walk of the reference's CheckPlan. Conditions: the library's table of blanks reads as it was laid. The walks of the reference's checkRecord, fails, failed, passes, Fails, Passes. Conditions: the library's table of blanks reads as it was laid. The walks of the reference's passes, Fails, Passes. Conditions: the library's table of blanks reads as it was laid. Conditions: none beyond what the claim form gives. -/
import Derived.Test.YtkfmadeeobalaaaDoorEA
import Derived.Test.YtkfmadeeobalaaaDoorSh1
import Derived.Test.YtkfmadeeobalaaaDoorLB
import Derived.Deep.RegionWith
import Derived.StillTailTactics
import Derived.Test.YtkfmadeeobalaaaDoorEC
namespace Go.Proofs.YtkfmadeeobalaaaDoor
open Go.RowKit
set_option linter.unusedVariables false

/-- The library's table of blanks, in the frozen heap. -/
def TabP (φ : Phi) : Prop := ∀ c : Nat, c < 256 → φ.cell? ⟨0, c, none⟩ = some (.int .u8 (if Lib.isSp (UInt8.ofNat c) then 1 else 0))
theorem TabP.mono {φ φ' : Phi} (h : TabP φ) (hl : φ.le φ') : TabP φ' := fun c hc => hl.cell (h c hc)
theorem wordByte_any (n : Int) (w : World) (h0 : 0 ≤ n) (h1 : n < 256) {b : Bool} (h : wrdB n = b) :
    Calls Tryd.prog 126 #[.int .u8 n] w fun e w' => e = .returned (.bool b) ∧ w = w' := by
  subst h
  go_enter Tryd.func126, Tryd.ntmps126
  go_wp2
  all_goals
    go_ret
    exact ⟨ret_bool (by unfold wrdB lowB; rw [Bool.eq_iff_iff]; simp; omega), rfl⟩
/-- The words that are no names, as a list. -/
def resW : List ByteArray := [⟨#[97, 110, 100]⟩, ⟨#[111, 114]⟩, ⟨#[110, 111, 116]⟩, ⟨#[105, 110]⟩, ⟨#[104, 97, 115]⟩, ⟨#[109, 111, 100]⟩, ⟨#[116, 114, 117, 101]⟩, ⟨#[102, 97, 108, 115, 101]⟩]
def resT : ByteArray := ⟨#[97, 110, 100, 32, 111, 114, 32, 110, 111, 116, 32, 105, 110, 32, 104, 97, 115, 32, 109, 111, 100, 32, 116, 114, 117, 101, 32, 102, 97, 108, 115, 101]⟩
theorem ba_eq (s : ByteArray) (l : List UInt8) : (s = ⟨l.toArray⟩) ↔ (s.toList == l) = true := by
  rw [beq_iff_eq, ByteArray.toList_eq]
  constructor
  · rintro rfl; simp
  · intro h
    obtain ⟨⟨x⟩⟩ := s
    have : x = l := h
    rw [this]
theorem resv_mem (s : ByteArray) : decide (s ∈ resW) = resv s := by
  rw [Bool.eq_iff_iff, decide_eq_true_iff]
  unfold resW resv
  simp only [List.mem_cons, List.not_mem_nil, or_false, Bool.or_eq_true]
  rw [ba_eq s [97, 110, 100], ba_eq s [111, 114], ba_eq s [110, 111, 116], ba_eq s [105, 110], ba_eq s [104, 97, 115], ba_eq s [109, 111, 100], ba_eq s [116, 114, 117, 101], ba_eq s [102, 97, 108, 115, 101]]
  simp only [or_assoc]
theorem res_fields : (Lib.fields resT.data.toList) = resW.map (fun b => b.data.toList) := by decide
theorem res_ascii : ∀ (j : Nat) (b : UInt8), resT.data.toList[j]? = some b → b.toNat < 128 := by
  have h : ∀ b ∈ resT.data.toList, b.toNat < 128 := by decide
  exact fun j b hj => h b (List.mem_of_getElem? hj)
def FieldsPost (φ : Phi) (w : World) (e : Ending) (w' : World) : Prop := ∃ φ' a, e = .returned (.slice a 8 8) ∧ Inv w.heap.size w φ φ' w' ∧ SlV φ' a 8 resW
theorem Fields_res (w : World) (φ : Phi) (hφ : Fz φ w) (ht : TabP φ) : Calls Tryd.prog 125 #[.string resT] w (FieldsPost φ w) := by
  refine (Any.strings_Fields_core Tryd.lays157 (by kernel_rfl) resT w (by decide) res_ascii (fun c hc => hφ.cell (ht c hc))).mono ?_
  rintro e w' ⟨rfl, rfl⟩
  obtain ⟨φ', h1, h2, h3⟩ := SlV.lit (α := ByteArray) hφ 9 (xs := resW) (arr := ((Lib.fields resT.data.toList).map fun l => Value.string ⟨l.toArray⟩).toArray) (by
    rw [res_fields]
    refine ⟨_, _, rfl, rfl, _, _, rfl, rfl, _, _, rfl, rfl, _, _, rfl, rfl, _, _, rfl, rfl, _, _, rfl, rfl, _, _, rfl, rfl, _, _, rfl, rfl, rfl⟩) (by decide)
  exact ⟨φ', _, by rw [res_fields]; rfl, h2, h3⟩
set_option maxRecDepth 100000 in
set_option maxHeartbeats 1000000 in
theorem RIsName_any (s : ByteArray) (w : World) (φ : Phi) (hφ : Fz φ w) (ht : TabP φ) (hs : s.size ≤ reachBytes) {b : Bool} (h : Hid (nameB s = b)) :
    Calls Tryd.prog 91 #[.string s] w (fun e w' => e = .returned (.bool b) ∧ Below w.heap.size w w') := by
  by_cases hz : s.size = 0
  · have he : s.toList.isEmpty = true := by rw [isEmpty_iff]; simp [hz]
    have he2 : s.toList = [] := List.isEmpty_iff.1 he
    have HZ := Lib.hid hz
    clear hz
    go_enter Tryd.func91, Tryd.ntmps91
    go_wp2
    go_ret
    exact ⟨ret_bool ((nameB_false (fun h => by have := h.1; have := HZ.out; omega)).symm.trans h.out), Below.refl _ _⟩
  have he : s.toList.isEmpty = false := by rw [isEmpty_iff]; simp [hz]
  have hp : 0 < s.size := by omega
  by_cases h16 : 16 < s.size
  · unfold reachBytes at hs
    go_enter Tryd.func91, Tryd.ntmps91
    go_wp2
    go_ret
    exact ⟨ret_bool ((nameB_false (fun h => by have := h.2.1; omega)).symm.trans h.out), Below.refl _ _⟩
  have hc := byt_bd s 0
  have b0 := Lib.hid (byt_eq s 0 hp)
  have hc0 : ((s[0]'hp).toNat : Int) < 256 := by rw [← b0.out]; omega
  have hc1 : 0 ≤ ((s[0]'hp).toNat : Int) := by omega
  clear hs hz
  by_cases l1 : ((s[0]'hp).toNat : Int) < 97
  · go_enter Tryd.func91, Tryd.ntmps91
    go_wp2
    go_ret
    exact ⟨ret_bool ((nameB_false (fun h => by have := h.2.2.1; rw [b0.out] at this; unfold lowB at this; simp at this; omega)).symm.trans h.out), Below.refl _ _⟩
  by_cases l2 : 122 < ((s[0]'hp).toNat : Int)
  · go_enter Tryd.func91, Tryd.ntmps91
    go_wp2
    go_ret
    exact ⟨ret_bool ((nameB_false (fun h => by have := h.2.2.1; rw [b0.out] at this; unfold lowB at this; simp at this; omega)).symm.trans h.out), Below.refl _ _⟩
  have hl0 : Hid (lowB ((s[0]'hp).toNat : Int) = true) := Lib.hid (by unfold lowB; simp; omega)
  obtain ⟨r0, hr0⟩ : ∃ b, Hid (resv s = b) := ⟨_, Lib.hid rfl⟩
  have hrm : Hid (decide (s ∈ resW) = r0) := Lib.hid ((resv_mem s).trans hr0.out)
  have hrl : Hid (resW.length = 8) := Lib.hid rfl
  have hT : Hid (TabP φ) := Lib.hid ht
  clear ht
  go_enter Tryd.func91, Tryd.ntmps91
  cases r0
  case true =>
    go_wp2_with (first | (go_at_call 125; refine (Fields_res w φ hφ hT.out).mono ?_; rintro e w1 ⟨φ1, a1, rfl, hi1, s1⟩) | (go_at_call 124; refine (ContainsS_b 8 a1 8 resW s w1 φ1 hi1.fz s1 hrl (by omega) hrm).mono ?_; rintro e w' ⟨rfl, rfl⟩))
    go_ret
    exact ⟨ret_bool ((nameB_false (fun h => by have := h.2.2.2.1; rw [hr0.out] at this; cases this)).symm.trans h.out), hi1.bel⟩
  go_wp2_with (first | (go_at_call 125; refine (Fields_res w φ hφ hT.out).mono ?_; rintro e w1 ⟨φ1, a1, rfl, hi1, s1⟩) | (go_at_call 124; refine (ContainsS_b 8 a1 8 resW s w1 φ1 hi1.fz s1 hrl (by omega) hrm).mono ?_; rintro e w' ⟨rfl, rfl⟩))
  have hB := Lib.hid hi1.bel
  clear hi1 s1
  go_loop [28] (fun i => ∃ k : Nat, k ≤ s.size ∧ i = .int .i64 k ∧ Hid (∀ i, i < k → wrdB (byt s i) = true)) (fun i => s.size - (intOf i).toNat)
  case atStart => exact ⟨0, Nat.zero_le _, rfl, Lib.hid (fun i hi => by omega)⟩
  case round =>
    obtain ⟨k, hk, rfl, hok⟩ := hrel
    by_cases hlt : k < s.size
    · have hb := byt_bd s k
      have hek := Lib.hid (byt_eq s k hlt)
      have hd0 : ((s[k]'hlt).toNat : Int) < 256 := by rw [← hek.out]; omega
      have hd1 : 0 ≤ ((s[k]'hlt).toNat : Int) := by omega
      obtain ⟨o, ho⟩ : ∃ o, Hid (wrdB ((s[k]'hlt).toNat : Int) = o) := ⟨_, Lib.hid rfl⟩
      cases o
      · go_wp2_with (go_at_call 126; refine (wordByte_any _ _ hd1 hd0 ho.out).mono ?_; rintro e w' ⟨rfl, rfl⟩)
        go_ret
        exact ⟨ret_bool ((nameB_false (fun h => by have := h.2.2.2.2 k hlt; rw [hek.out, ho.out] at this; cases this)).symm.trans h.out), hB.out⟩
      · go_wp2_with (go_at_call 126; refine (wordByte_any _ _ hd1 hd0 ho.out).mono ?_; rintro e w' ⟨rfl, rfl⟩)
        go_round
        case rel => exact ⟨k + 1, by omega, by go_num, Lib.hid (fun i hi => by
          by_cases e : i = k
          · subst e; rw [hek.out]; exact ho.out
          · exact hok.out i (by omega))⟩
        case measure => (simp [intOf] <;> omega)
    · obtain rfl : k = s.size := by omega
      go_wp2
      go_ret
      exact ⟨ret_bool ((nameB_true ⟨hp, by omega, by rw [b0.out]; exact hl0.out, hr0.out, hok.out⟩).symm.trans h.out), hB.out⟩
end Go.Proofs.YtkfmadeeobalaaaDoor

namespace Go.Proofs.YtkfmadeeobalaaaDoor
open Go.RowKit
set_option linter.unusedVariables false

theorem within_b (n lo hi : Int) (w : World) {b : Bool} (h : outB n lo hi = b) :
    Calls Tryd.prog 39 #[.int .i64 n, .int .i64 lo, .int .i64 hi] w fun e w' => e = .returned (.bool (!b)) ∧ w = w' := by
  subst h
  go_enter Tryd.func39, Tryd.ntmps39
  by_cases h : lo ≤ n
  · go_wp2
    go_ret
    exact ⟨ret_bool (by rw [Bool.eq_iff_iff]; simp [outB]; omega), rfl⟩
  · go_wp2
    go_ret
    exact ⟨ret_bool (by rw [Bool.eq_iff_iff]; simp [outB]; omega), rfl⟩
noncomputable def rfB (nm : ByteArray) (cs : List Int) (wt : Int) (ear : List Fld) : Int := if nameB nm = false then 5 else if decide (nm ∈ ear.map (·.1)) = true then 6 else fieldF cs wt
theorem fldBad_rf {fs : List Fld} {k : Nat} : fldBad fs k = rfB (fs.getD k fld0).1 (fs.getD k fld0).2.1 (fs.getD k fld0).2.2 (fs.take k) := by
  unfold fldBad rfB seenL
  simp only [List.mem_reverse]
theorem names_next {α : Type} {l : List (ByteArray × α)} {d : ByteArray × α} {k : Nat} {x : ByteArray} (h : Hid (∀ i, i < k → (l.getD i d).1 ≠ x)) (hk : (l.getD k d).1 ≠ x) : Hid (∀ i, i < k + 1 → (l.getD i d).1 ≠ x) :=
  Lib.hid fun i hi => by
    by_cases e : i = k
    · subst e; exact hk
    · exact h.out i (by omega)
theorem names_none {α : Type} {l : List (ByteArray × α)} {d : ByteArray × α} {n : Nat} (hn : l.length = n) {x : ByteArray} (h : ∀ i, i < n → (l.getD i d).1 ≠ x) : decide (x ∈ l.map (·.1)) = false := by
  rw [decide_eq_false_iff_not, List.mem_map]
  rintro ⟨y, hy, rfl⟩
  obtain ⟨i, hi, rfl⟩ := List.getElem_of_mem hy
  exact h i (by omega) (by rw [getD_elem0 _ _ _ hi])
theorem names_some {α : Type} {l : List (ByteArray × α)} {d : ByteArray × α} {k n : Nat} (hn : l.length = n) (hk : k < n) {x : ByteArray} (h : (l.getD k d).1 = x) : decide (x ∈ l.map (·.1)) = true := by
  rw [decide_eq_true_iff, List.mem_map]
  exact ⟨_, by rw [getD_elem0 d l k (by omega)] at h; exact List.getElem_mem (by omega : k < l.length), by rw [← h, getD_elem0 d l k (by omega)]⟩
structure BxSt (w0 : World) (φ : Phi) (bx : Nat) (cs : Array Value) (T : TypeId) (w : World) : Prop where
  fz : Fz φ w
  bel : Below w0.heap.size w0 w
  k : Blk w bx cs T
theorem BxSt.callB {w0 w w' : World} {φ : Phi} {bx : Nat} {cs : Array Value} {T : TypeId} (h : BxSt w0 φ bx cs T w) (hb : Below w.heap.size w w') : BxSt w0 φ bx cs T w' := ⟨h.fz.below hb, h.bel.trans (hb.mono h.bel.size), h.k.callB hb⟩
theorem BxSt.alloc {w0 w : World} {φ : Phi} {bx : Nat} {cs : Array Value} {T : TypeId} (h : BxSt w0 φ bx cs T w) (o : Obj) : BxSt w0 φ bx cs T (w.alloc o) := h.callB ((Below.refl _ _).alloc (Nat.le_refl _) o)
theorem BxSt.new {w : World} {φ : Phi} (h : Fz φ w) (cs : Array Value) (T : TypeId) : BxSt w φ w.heap.size cs T (w.alloc (.cells cs T)) := ⟨h.alloc _, (Below.refl _ _).alloc (Nat.le_refl _) _, Blk.new w cs T⟩
set_option maxRecDepth 100000 in
set_option maxHeartbeats 1000000 in
theorem checkField_any (nm : ByteArray) (n : Nat) (a : Option Addr) (cap : Nat) (cs : List Int) (wt : Int) (w : World) (φ : Phi) (hφ : Fz φ w) (ht : TabP φ) (s : SlV φ a cap cs) (hn : Hid (cs.length = n)) (hm : n ≤ 9223372036854775807) (hg : nm.size ≤ reachBytes)
    (ke : Nat) (a2 : Option Addr) (c2 : Nat) (ear : List Fld) (se : SlV φ a2 c2 ear) (hke : Hid (ear.length = ke)) (hme : ke ≤ 9223372036854775807) {q : Int} (hq : Hid (rfB nm cs wt ear = q)) :
    Calls Tryd.prog 77 #[.agg #[.string nm, .slice a n cap, .int .i64 wt], .slice a2 ke c2] w (IntB q w) := by
  have hS0 := Lib.hid (BxSt.new hφ #[.string nm, .slice a n cap, .int .i64 wt] 92)
  have hTT := Lib.hid ht
  obtain ⟨b, hb⟩ : ∃ b, Hid (nameB nm = b) := ⟨_, Lib.hid rfl⟩
  clear ht
  go_enter Tryd.func77, Tryd.ntmps77
  go_wp2_with fail
  refine (RIsName_any nm _ φ hS0.out.fz hTT.out hg hb).mono ?_
  rintro e w1 ⟨rfl, hb1⟩
  have hS1 := Lib.hid (hS0.out.callB hb1)
  clear hb1 hS0
  generalize hbx : w.heap.size = bx at *
  replace hbx := Lib.hid hbx
  cases b
  case false =>
    go_wp2
    go_ret
    exact ⟨ret_int (by rw [← hq.out, rfB, if_pos hb.out]), hS1.out.bel⟩
  go_wp2
  go_loopw [15] (fun i wr => ∃ k : Nat, k ≤ ke ∧ i = .int .i64 k ∧ Hid (∀ i, i < k → (ear.getD i fld0).1 ≠ nm) ∧ Hid (BxSt w φ bx #[.string nm, .slice a n cap, .int .i64 wt] 92 wr)) (fun i _ => ke - (intOf i).toNat)
  case atStart => exact ⟨0, Nat.zero_le _, rfl, Lib.hid (fun i hi => by omega), hS1⟩
  case round =>
    clear hS1
    obtain ⟨k, hk, rfl, hok, hS⟩ := hrel
    by_cases hlt : k < ke
    · obtain ⟨b1, o1, rfl, f1⟩ := se.fldD hke hlt
      obtain ⟨a3, c3, s3, f1⟩ := f1 k hlt
      obtain ⟨_, d1, d2, d3⟩ := f1 wr hS.out.fz
      have e0 : wr.cell? ⟨bx, 0, none⟩ = some (.string nm) := hS.out.k.cell 0
      have HY := Lib.hid (fun h : (ear.getD k fld0).1 = nm => names_some hke.out hlt h)
      have HN := Lib.hid (fun h : (ear.getD k fld0).1 ≠ nm => names_next hok h)
      clear f1
      generalize ear.getD k fld0 = X at *
      obtain ⟨nk, ck, wk⟩ := X
      dsimp only at d1 d2 d3 HY HN
      have hSa := Lib.hid (hS.out.alloc (.cells #[.string nk, .slice a3 ck.length c3, .int .i64 wk] 92))
      have e0' := hSa.out.k.cell 0
      by_cases he : nk = nm
      · have hb1 := str_eq_t he
        have HE := Lib.hid (HY.out he)
        clear he
        go_wp2
        go_ret
        exact ⟨ret_int (by rw [← hq.out, rfB, if_neg (by rw [hb.out]; simp), if_pos HE.out]), hSa.out.bel⟩
      · have hb1 := str_eq_f he
        have HE := Lib.hid (HN.out he)
        clear he
        go_wp2
        go_roundw
        case rel => exact ⟨k + 1, by omega, by go_num, HE.out, hSa⟩
        case measure => (simp [intOf] <;> omega)
    · obtain rfl : k = ke := by omega
      have hq2 : Hid (fieldF cs wt = q) := Lib.hid (by rw [← hq.out, rfB, if_neg (by rw [hb.out]; simp), if_neg (by rw [names_none hke.out hok.out]; simp)])
      have e1 : wr.cell? ⟨bx, 1, none⟩ = some (.slice a n cap) := hS.out.k.cell 1
      have e2 : wr.cell? ⟨bx, 2, none⟩ = some (.int .i64 wt) := hS.out.k.cell 2
      have hB := Lib.hid hS.out.bel
      have hF := Lib.hid hS.out.fz
      rw [hbx.out] at hB
      by_cases z : n = 0
      · have Z := Lib.hid z
        have zb : ((n : Int) == 0) = true := by simp [z]
        clear z
        go_wp2
        go_ret
        exact ⟨ret_int (by rw [← hq2.out, fieldF, hn.out, if_pos Z.out]), by rw [hbx.out]; exact hB.out⟩
      have zb : ((n : Int) == 0) = false := by simp; omega
      by_cases hl : 20 < n
      · go_wp2
        go_ret
        exact ⟨ret_int (by rw [← hq2.out, fieldF, hn.out, if_neg z, if_pos hl]), by rw [hbx.out]; exact hB.out⟩
      have h0 : 0 < n := by omega
      have z := Lib.hid z
      clear hS
      go_wp2
      clear zb
      go_loop [38] (fun i => ∃ k : Nat, k ≤ n ∧ i = .int .i64 k ∧ Hid (∀ i, i < k → codeBad cs i = 0)) (fun i => n - (intOf i).toNat)
      case atStart => exact ⟨0, Nat.zero_le _, rfl, none_yet _⟩
      case round =>
        obtain ⟨j, hj, rfl, hok2⟩ := hrel
        by_cases hlt : j < n
        · obtain ⟨b1, off, rfl, f⟩ := s.intsD hn hlt
          obtain ⟨_, c1⟩ := f j hlt wr hF.out
          have HP := Lib.hid (fun h : 0 < j => (f (j - 1) (by omega) wr hF.out).2)
          have hbad : Hid (codeBad cs j = _) := Lib.hid (codeBad.eq_1 cs j)
          clear f
          generalize cs.getD j 0 = m at *
          generalize cs.getD (j - 1) 0 = p at *
          obtain ⟨o1, ho1⟩ : ∃ o, Hid (outB m 1 999 = o) := ⟨_, Lib.hid rfl⟩
          cases o1
          case true =>
            go_wp2_with (go_at_call 39; refine (within_b _ _ _ _ ho1.out).mono ?_; rintro e w' ⟨rfl, rfl⟩)
            go_ret
            exact ⟨ret_int ((fieldF_at hn h0 (by omega) hlt hok2 (by rw [hbad.out, if_pos ho1.out]) (by decide)).symm.trans hq2.out), by rw [hbx.out]; exact hB.out⟩
          by_cases h3 : 0 < j
          · have hpp := HP.out h3
            have hix : 0 ≤ (j : Int) - 1 := by omega
            have hix2 : (j : Int) - 1 < n := by omega
            have hto : ((j : Int) - 1).toNat = j - 1 := by omega
            have h3i : decide ((0 : Int) < j) = true := decide_eq_true (by omega)
            go_wp2_with (go_at_call 39; refine (within_b _ _ _ _ ho1.out).mono ?_; rintro e w' ⟨rfl, rfl⟩)
            all_goals first
              | (go_ret; exact ⟨ret_int ((fieldF_at hn h0 (by omega) hlt hok2 (by rw [hbad.out, if_neg (by rw [ho1.out]; simp), if_pos (by omega)]) (by decide)).symm.trans hq2.out), by rw [hbx.out]; exact hB.out⟩)
              | (go_round
                 case rel => exact ⟨j + 1, by omega, by go_num, next_ok hok2 (by rw [hbad.out, if_neg (by rw [ho1.out]; simp), if_neg (by omega)])⟩
                 case measure => simp [intOf]; omega)
          · have h3i : decide ((0 : Int) < j) = false := decide_eq_false (by omega)
            go_wp2_with (go_at_call 39; refine (within_b _ _ _ _ ho1.out).mono ?_; rintro e w' ⟨rfl, rfl⟩)
            go_round
            case rel => exact ⟨j + 1, by omega, by go_num, next_ok hok2 (by rw [hbad.out, if_neg (by rw [ho1.out]; simp), if_neg (by omega)])⟩
            case measure => (simp [intOf] <;> omega)
        · obtain rfl : j = n := by omega
          obtain ⟨o1, ho1⟩ : ∃ o, Hid (outB wt 1 1000 = o) := ⟨_, Lib.hid rfl⟩
          have e := Lib.hid (fieldF_ok (wt := wt) hn h0 (by omega) hok2)
          cases o1
          all_goals
            go_wp2_with (go_at_call 39; refine (within_b _ _ _ _ ho1.out).mono ?_; rintro e w' ⟨rfl, rfl⟩)
            go_ret
            exact ⟨ret_int (by rw [← hq2.out, e.out, ho1.out]; rfl), by rw [hbx.out]; exact hB.out⟩
noncomputable def reB (nm : ByteArray) (ss : List (List Int)) (ear : List Edt) (fs : List Fld) : Int := if nameB nm = false then 5 else if decide (nm ∈ ear.map (·.1)) = true then 6 else if ss.length ≠ fs.length then 3 else scan (setsBad fs ss) ss.length
theorem edtBad_re {fs : List Fld} {es : List Edt} {k : Nat} : edtBad fs es k = reB (es.getD k edt0).1 (es.getD k edt0).2 (es.take k) fs := by
  unfold edtBad reB seenL
  simp only [List.mem_reverse]
set_option maxRecDepth 100000 in
set_option maxHeartbeats 1000000 in
theorem checkEdit_any (nm : ByteArray) (ns : Nat) (a : Option Addr) (cap : Nat) (ss : List (List Int)) (w : World) (φ : Phi) (hφ : Fz φ w) (ht : TabP φ) (s : SlV φ a cap ss) (hn : Hid (ss.length = ns)) (hm : ns ≤ 9223372036854775807) (hg : nm.size ≤ reachBytes)
    (ke : Nat) (a2 : Option Addr) (c2 : Nat) (ear : List Edt) (se : SlV φ a2 c2 ear) (hke : Hid (ear.length = ke)) (hme : ke ≤ 9223372036854775807) (n : Nat) (a3 : Option Addr) (c3 : Nat) (fs : List Fld) (sf : SlV φ a3 c3 fs) (hnf : Hid (fs.length = n)) (hmf : n ≤ 9223372036854775807) {q : Int} (hq : Hid (reB nm ss ear fs = q)) :
    Calls Tryd.prog 78 #[.agg #[.string nm, .slice a ns cap], .slice a2 ke c2, .slice a3 n c3] w (IntB q w) := by
  have hS0 := Lib.hid (BxSt.new hφ #[.string nm, .slice a ns cap] 106)
  have hTT := Lib.hid ht
  obtain ⟨b, hb⟩ : ∃ b, Hid (nameB nm = b) := ⟨_, Lib.hid rfl⟩
  clear ht
  go_enter Tryd.func78, Tryd.ntmps78
  go_wp2_with fail
  refine (RIsName_any nm _ φ hS0.out.fz hTT.out hg hb).mono ?_
  rintro e w1 ⟨rfl, hb1⟩
  have hS1 := Lib.hid (hS0.out.callB hb1)
  clear hb1 hS0
  generalize hbx : w.heap.size = bx at *
  replace hbx := Lib.hid hbx
  cases b
  case false =>
    go_wp2
    go_ret
    exact ⟨ret_int (by rw [← hq.out, reB, if_pos hb.out]), hS1.out.bel⟩
  go_wp2
  go_loopw [19] (fun i wr => ∃ k : Nat, k ≤ ke ∧ i = .int .i64 k ∧ Hid (∀ i, i < k → (ear.getD i edt0).1 ≠ nm) ∧ Hid (BxSt w φ bx #[.string nm, .slice a ns cap] 106 wr)) (fun i _ => ke - (intOf i).toNat)
  case atStart => exact ⟨0, Nat.zero_le _, rfl, Lib.hid (fun i hi => by omega), hS1⟩
  case round =>
    clear hS1
    obtain ⟨k, hk, rfl, hok, hS⟩ := hrel
    by_cases hlt : k < ke
    · obtain ⟨b1, o1, rfl, f1⟩ := se.edtD hke hlt
      obtain ⟨a4, c4, s4, f1⟩ := f1 k hlt
      obtain ⟨_, d1, d2⟩ := f1 wr hS.out.fz
      have e0 : wr.cell? ⟨bx, 0, none⟩ = some (.string nm) := hS.out.k.cell 0
      have HY := Lib.hid (fun h : (ear.getD k edt0).1 = nm => names_some hke.out hlt h)
      have HN := Lib.hid (fun h : (ear.getD k edt0).1 ≠ nm => names_next hok h)
      clear f1
      generalize ear.getD k edt0 = X at *
      obtain ⟨nk, ck⟩ := X
      dsimp only at d1 d2 HY HN
      have hSa := Lib.hid (hS.out.alloc (.cells #[.string nk, .slice a4 ck.length c4] 106))
      have e0' := hSa.out.k.cell 0
      by_cases he : nk = nm
      · have hb1 := str_eq_t he
        have HE := Lib.hid (HY.out he)
        clear he
        go_wp2
        go_ret
        exact ⟨ret_int (by rw [← hq.out, reB, if_neg (by rw [hb.out]; simp), if_pos HE.out]), hSa.out.bel⟩
      · have hb1 := str_eq_f he
        have HE := Lib.hid (HN.out he)
        clear he
        go_wp2
        go_roundw
        case rel => exact ⟨k + 1, by omega, by go_num, HE.out, hSa⟩
        case measure => (simp [intOf] <;> omega)
    · obtain rfl : k = ke := by omega
      have hq2 : Hid ((if ss.length ≠ fs.length then 3 else scan (setsBad fs ss) ss.length) = q) := Lib.hid (by have h := hq.out; rw [reB, if_neg (by rw [hb.out]; simp), if_neg (by rw [names_none hke.out hok.out]; simp)] at h; exact h)
      rw [hn.out, hnf.out] at hq2
      have e1 : wr.cell? ⟨bx, 1, none⟩ = some (.slice a ns cap) := hS.out.k.cell 1
      have hB := Lib.hid hS.out.bel
      have hF := Lib.hid hS.out.fz
      rw [hbx.out] at hB
      by_cases hne : ns = n
      case neg =>
        have hb1 : ((ns : Int) != n) = true := by simp; omega
        have HNE := Lib.hid hne
        clear hne
        go_wp2
        go_ret
        exact ⟨ret_int (by rw [← hq2.out, if_pos HNE.out]), by rw [hbx.out]; exact hB.out⟩
      subst hne
      have hb1 : ((ns : Int) != ns) = false := by simp
      have hq3 : Hid (scan (setsBad fs ss) ns = q) := Lib.hid (by have h := hq2.out; rwa [if_neg (by simp)] at h)
      clear hS
      go_wp2
      clear hb1
      go_loop [38] (fun i => ∃ k : Nat, k ≤ ns ∧ i = .int .i64 k ∧ Hid (∀ i, i < k → setsBad fs ss i = 0)) (fun i => ns - (intOf i).toNat)
      case atStart => exact ⟨0, Nat.zero_le _, rfl, none_yet _⟩
      case round =>
        obtain ⟨j, hj, rfl, hok2⟩ := hrel
        by_cases hlt : j < ns
        · obtain ⟨b1, o1, rfl, f1⟩ := s.lists hn hlt
          obtain ⟨a5, c5, s5, f1⟩ := f1 j hlt
          have d1 := (f1 wr hF.out).2
          obtain ⟨bf, of_, hab, fF⟩ := sf.fldD hnf hlt
          obtain ⟨a6, c6, s6, fF⟩ := fF j hlt
          have d2 := (fF wr hF.out).2.2.1
          subst hab
          have hbad : Hid (setsBad fs ss j = setF (ss.getD j []) (fs.getD j fld0).2.1) := Lib.hid rfl
          clear f1 fF
          generalize ss.getD j [] = st at *
          generalize (fs.getD j fld0).2.1 = cd at *
          obtain ⟨n1, hn1⟩ : ∃ n1, Hid (st.length = n1) := ⟨_, Lib.hid rfl⟩
          obtain ⟨n2, hn2⟩ : ∃ n2, Hid (cd.length = n2) := ⟨_, Lib.hid rfl⟩
          rw [hn1.out] at d1
          rw [hn2.out] at d2
          have l1 := s5.capn
          have l2 := s5.capm
          have l3 := s6.capn
          have l4 := s6.capm
          rw [hn1.out] at l1
          rw [hn2.out] at l3
          unfold maxLen at l2 l4
          by_cases z : n1 = 0
          · have Z := Lib.hid z
            have zb : ((n1 : Int) == 0) = true := by simp [z]
            clear z
            go_wp2
            go_ret
            have hc : setF st cd = 9 := by rw [setF, hn1.out, if_pos Z.out]
            exact ⟨ret_int (by rw [← hq3.out, scan_stop hok2.out hlt (by rw [hbad.out, hc]; decide), hbad.out, hc]), by rw [hbx.out]; exact hB.out⟩
          have zb : ((n1 : Int) == 0) = false := by simp; omega
          have h0 : 0 < n1 := by omega
          have z := Lib.hid z
          go_wp2
          clear zb d1
          go_loop [48] (fun i => ∃ k : Nat, k ≤ n1 ∧ i = .int .i64 k ∧ Hid (∀ i, i < k → setBad st cd i = 0)) (fun i => n1 - (intOf i).toNat)
          case atStart => exact ⟨0, Nat.zero_le _, rfl, none_yet _⟩
          case round =>
            obtain ⟨p, hp, rfl, hok3⟩ := hrel
            by_cases hlt2 : p < n1
            · obtain ⟨bt, ot, rfl, fT⟩ := s5.intsD hn1 hlt2
              have y1 := (fT p hlt2 wr hF.out).2
              have HP := Lib.hid (fun h : 0 < p => (fT (p - 1) (by omega) wr hF.out).2)
              have hbd : Hid (setBad st cd p = _) := Lib.hid (setBad.eq_1 st cd p)
              clear fT
              generalize st.getD p 0 = u at *
              generalize st.getD (p - 1) 0 = v at *
              have STOP : Hid (∀ c, setBad st cd p = c → c ≠ 0 → q = c) := Lib.hid (fun c hc hc0 => by
                have h1 : setF st cd = c := setF_at hn1 h0 hlt2 hok3 hc hc0
                rw [← hq3.out, scan_stop hok2.out hlt (by rw [hbad.out, h1]; exact hc0), hbad.out, h1])
              obtain ⟨o1, ho1⟩ : ∃ o, Hid (decide (u ∈ cd) = o) := ⟨_, Lib.hid rfl⟩
              cases o1
              case false =>
                go_wp2_with (go_at_call 81; refine (Contains_b n2 a6 c6 cd u wr φ hF.out s6 hn2 (by omega) ho1.out).mono ?_; rintro e w' ⟨rfl, rfl⟩)
                go_ret
                exact ⟨ret_int (STOP.out 1 (by rw [hbd.out, if_pos ho1.out]) (by decide)).symm, by rw [hbx.out]; exact hB.out⟩
              by_cases h3 : 0 < p
              · have hpp := HP.out h3
                have hix : 0 ≤ (p : Int) - 1 := by omega
                have hix2 : (p : Int) - 1 < n1 := by omega
                have hto : ((p : Int) - 1).toNat = p - 1 := by omega
                have h3i : decide ((0 : Int) < p) = true := decide_eq_true (by omega)
                go_wp2_with (go_at_call 81; refine (Contains_b n2 a6 c6 cd u wr φ hF.out s6 hn2 (by omega) ho1.out).mono ?_; rintro e w' ⟨rfl, rfl⟩)
                all_goals first
                  | (go_ret; exact ⟨ret_int (STOP.out 7 (by rw [hbd.out, if_neg (by rw [ho1.out]; simp), if_pos (by omega)]) (by decide)).symm, by rw [hbx.out]; exact hB.out⟩)
                  | (go_round
                     case rel => exact ⟨p + 1, by omega, by go_num, next_ok hok3 (by rw [hbd.out, if_neg (by rw [ho1.out]; simp), if_neg (by omega)])⟩
                     case measure => simp [intOf]; omega)
              · have h3i : decide ((0 : Int) < p) = false := decide_eq_false (by omega)
                go_wp2_with (go_at_call 81; refine (Contains_b n2 a6 c6 cd u wr φ hF.out s6 hn2 (by omega) ho1.out).mono ?_; rintro e w' ⟨rfl, rfl⟩)
                go_round
                case rel => exact ⟨p + 1, by omega, by go_num, next_ok hok3 (by rw [hbd.out, if_neg (by rw [ho1.out]; simp), if_neg (by omega)])⟩
                case measure => (simp [intOf] <;> omega)
            · obtain rfl : p = n1 := by omega
              go_wp2
              go_round
              case rel => exact ⟨j + 1, by omega, by go_num, next_ok hok2 (by rw [hbad.out]; exact setF_ok hn1 h0 hok3)⟩
              case measure => (simp [intOf] <;> omega)
        · obtain rfl : j = ns := by omega
          go_wp2
          go_ret
          exact ⟨ret_int (by rw [← hq3.out, scan_zero _ _ hok2.out]), by rw [hbx.out]; exact hB.out⟩
end Go.Proofs.YtkfmadeeobalaaaDoor

namespace Go.Proofs.YtkfmadeeobalaaaDoor
open Go.RowKit
set_option linter.unusedVariables false

/-- The product of the sizes, up to a bound. -/
def mixK (fs : List Fld) : Nat → Nat
  | 0 => 1
  | k + 1 => min (mixK fs k * (fs.getD k fld0).2.1.length) 20001
theorem mixK_le (fs : List Fld) : ∀ k, mixK fs k ≤ 20001
  | 0 => by simp [mixK]
  | k + 1 => Nat.min_le_right _ _
theorem mixK_eq {fs : List Fld} : ∀ {k : Nat}, (∀ i, i < k → 0 < (fs.getD i fld0).2.1.length) → mixK fs k = min (prodK fs k) 20001
  | 0, _ => by simp [mixK, prodK]
  | k + 1, h => by
    have ih := mixK_eq (k := k) (fun i hi => h i (by omega))
    have hl := h k (by omega)
    rw [mixK, ih, prodK]
    by_cases hp : prodK fs k ≤ 20001
    · rw [Nat.min_eq_left hp]
    · rw [Nat.min_eq_right (by omega : 20001 ≤ prodK fs k)]
      have h1 : 20001 ≤ 20001 * (fs.getD k fld0).2.1.length := Nat.le_mul_of_pos_right _ hl
      have h2 : 20001 ≤ prodK fs k * (fs.getD k fld0).2.1.length := Nat.le_trans (by omega : 20001 ≤ prodK fs k) (Nat.le_mul_of_pos_right _ hl)
      omega
theorem mix_iff {fs : List Fld} {n : Nat} (h : ∀ i, i < n → 0 < (fs.getD i fld0).2.1.length) : 20000 < mixK fs n ↔ 20000 < prodK fs n := by
  rw [mixK_eq h]; omega
set_option maxRecDepth 100000 in
set_option maxHeartbeats 2000000 in
theorem RCheckPlan_any
  (n : Nat) (a : Option Addr) (cap : Nat) (fs : List Fld) (m : Nat) (ae : Option Addr) (ce : Nat) (es : List Edt) (w : World) (φ : Phi) (hφ : Fz φ w) (ht : TabP φ) (s : SlV φ a cap fs) (hn : Hid (fs.length = n)) (hm : n ≤ 9223372036854775807) (hg : Hid (∀ x ∈ fs, FldG x)) (se : SlV φ ae ce es) (hne : Hid (es.length = m)) (hme : m ≤ 9223372036854775807) (hge : Hid (∀ x ∈ es, EdtG x))
    {q : Int} (hq : Hid (planF fs es = q)) :
    Calls Tryd.prog 29 #[.agg #[.slice a n cap, .slice ae m ce]] w (IntB q w) := by
  have hS0 := Lib.hid (BxSt.new hφ #[.slice a n cap, .slice ae m ce] 25)
  have hTT := Lib.hid ht
  clear ht
  by_cases z : n = 0
  · have Z := Lib.hid z
    have zb : ((n : Int) == 0) = true := by simp [z]
    clear z
    go_enter Tryd.func29, Tryd.ntmps29
    go_wp2
    go_ret
    have h9 : fieldsF fs = 9 := by rw [fieldsF, hn.out, if_pos Z.out]
    exact ⟨ret_int (by rw [← hq.out, planF, if_pos (by rw [h9]; decide), h9]), hS0.out.bel⟩
  have zb : ((n : Int) == 0) = false := by simp; omega
  by_cases hl : 12 < n
  · have z := Lib.hid z
    go_enter Tryd.func29, Tryd.ntmps29
    go_wp2
    go_ret
    have h9 : fieldsF fs = 2 := by rw [fieldsF, hn.out, if_neg z.out, if_pos hl]
    exact ⟨ret_int (by rw [← hq.out, planF, if_pos (by rw [h9]; decide), h9]), hS0.out.bel⟩
  have h0 : 0 < n := by omega
  have z := Lib.hid z
  go_enter Tryd.func29, Tryd.ntmps29
  go_wp2
  clear zb
  generalize hW : w.alloc (.cells #[.slice a n cap, .slice ae m ce] 25) = W at *
  generalize hbx : w.heap.size = bx at *
  replace hbx := Lib.hid hbx
  replace hW := Lib.hid hW
  go_loopw [3, 23] (fun mm i wr => ∃ k : Nat, k ≤ n ∧ mm = .int .i64 (mixK fs k : Nat) ∧ i = .int .i64 k ∧ Hid (∀ i, i < k → fldBad fs i = 0) ∧ Hid (BxSt w φ bx #[.slice a n cap, .slice ae m ce] 25 wr)) (fun _ i _ => n - (intOf i).toNat)
  case atStart => exact ⟨0, Nat.zero_le _, rfl, rfl, none_yet _, hS0⟩
  case round =>
    clear hS0
    obtain ⟨k, hk, rfl, rfl, hok, hS⟩ := hrel
    by_cases hlt : k < n
    · obtain ⟨b1, o1, rfl, f1⟩ := s.fldD hn hlt
      obtain ⟨a3, c3, s3, f1⟩ := f1 k hlt
      obtain ⟨_, d1, d2, d3⟩ := f1 wr hS.out.fz
      have hbad := Lib.hid (fldBad_rf (fs := fs) (k := k))
      have hgk := hg.out (fs.getD k fld0) (by rw [getD_elem0 _ _ _ (by rw [hn.out]; exact hlt)]; exact List.getElem_mem _)
      have hmx : Hid (mixK fs (k + 1) = min (mixK fs k * (fs.getD k fld0).2.1.length) 20001) := Lib.hid rfl
      have hml := mixK_le fs k
      clear f1
      generalize fs.getD k fld0 = X at *
      obtain ⟨nk, ck, wk⟩ := X
      dsimp only at d1 d2 d3 hbad hgk hmx s3
      obtain ⟨nc, hnc⟩ : ∃ j, Hid (ck.length = j) := ⟨_, Lib.hid rfl⟩
      rw [hnc.out] at d2 hmx
      have l1 := s3.capn
      have l2 := s3.capm
      rw [hnc.out] at l1
      unfold maxLen at l2
      have hgk' : nk.size ≤ reachBytes := hgk
      have hSa := Lib.hid (hS.out.alloc (.cells #[.string nk, .slice a3 nc c3, .int .i64 wk] 92))
      have hNb := Lib.hid (Blk.new wr #[.string nk, .slice a3 nc c3, .int .i64 wk] 92)
      have hcp := s.capn
      rw [hn.out] at hcp
      have hcm := s.capm
      unfold maxLen at hcm
      have htk : Hid ((fs.take k).length = k) := Lib.hid (by rw [List.length_take, hn.out]; omega)
      have stk := s.take k
      obtain ⟨q1, hq1⟩ : ∃ j, Hid (rfB nk ck wk (fs.take k) = j) := ⟨_, Lib.hid rfl⟩
      rw [hq1.out] at hbad
      generalize mixK fs k = mk at *
      go_wp2
      generalize wr.alloc (.cells #[.string nk, .slice a3 nc c3, .int .i64 wk] 92) = wy at *
      generalize wr.heap.size = bn at *
      have y0 : wy.cell? ⟨bn, 0, none⟩ = some (.string nk) := hNb.out.cell 0
      have y1 : wy.cell? ⟨bn, 1, none⟩ = some (.slice a3 nc c3) := hNb.out.cell 1
      have y2 : wy.cell? ⟨bn, 2, none⟩ = some (.int .i64 wk) := hNb.out.cell 2
      have y3 : wy.cell? ⟨bx, 0, none⟩ = some (.slice (some ⟨b1, o1, none⟩) n cap) := hSa.out.k.cell 0
      refine wp_region_still_tail 5 (by kernel_rfl) (by kernel_rfl) ?_
      simp only [List.take_succ_cons, List.take_zero, List.drop_succ_cons, List.drop_zero]
      change wpStill _ _ (World.drew wy) (fun a' => wpList _ _ _ _ a' (World.drew wy)) _ _
      have hSz := Lib.hid (hSa.out.callB (bdrewN (Below.refl wy.heap.size wy) 1))
      have hNz : Hid (Blk wy.drew bn #[.string nk, .slice a3 nc c3, .int .i64 wk] 92) := hNb
      clear y0 y1 y2 y3 hSa hNb
      change Hid (BxSt w φ bx #[.slice (some ⟨b1, o1, none⟩) n cap, .slice ae m ce] 25 wy.drew) at hSz
      generalize wy.drew = wz at *
      have y0 : wz.cell? ⟨bn, 0, none⟩ = some (.string nk) := hNz.out.cell 0
      have y1 : wz.cell? ⟨bn, 1, none⟩ = some (.slice a3 nc c3) := hNz.out.cell 1
      have y2 : wz.cell? ⟨bn, 2, none⟩ = some (.int .i64 wk) := hNz.out.cell 2
      have y3 : wz.cell? ⟨bx, 0, none⟩ = some (.slice (some ⟨b1, o1, none⟩) n cap) := hSz.out.k.cell 0
      have hkc : k ≤ cap := by omega
      repeat still_step
      refine wpStill_nil ?_
      go_wp2_with fail
      refine (checkField_any nk nc a3 c3 ck wk _ φ hSz.out.fz hTT.out s3 hnc (by omega) hgk' k (some ⟨b1, o1, none⟩) cap (fs.take k) stk htk (by omega) hq1).mono ?_
      rintro e w5 ⟨rfl, hb5⟩
      have hS5 := Lib.hid (hSz.out.callB hb5)
      have y5 : w5.cell? ⟨bn, 1, none⟩ = some (.slice a3 nc c3) := (hNz.out.callB hb5).cell 1
      clear hb5 y0 y1 y2 y3 d1 d2 d3 hSz hNz
      by_cases hz : q1 = 0
      · subst hz
        have hncb : nc ≤ 20 := by
          have h := hq1.out
          unfold rfB at h
          split at h
          · cases h
          · split at h
            · cases h
            · have := (fieldF_zero h).2.1
              rw [hnc.out] at this
              exact this
        have hpb : mk * nc ≤ 400020 := Nat.le_trans (Nat.mul_le_mul hml hncb) (by decide)
        have hpc : ((mk * nc : Nat) : Int) = (mk : Int) * nc := by simp
        have hw0 : IntKind.i64.wrap ((mk : Int) * nc) = ((mk * nc : Nat) : Int) := by rw [hpc]; exact IntWalk.i64_in _ (by rw [← hpc]; omega)
        generalize hmq : mk * nc = mm at *
        replace hmq := Lib.hid hmq
        clear hpc hncb hml
        have hw1 : IntKind.i64.wrap ((mk : Int) * nc) = (mm : Int) := hw0
        clear hw0
        go_wp2
        go_roundw
        case rel => exact ⟨k + 1, by omega, by rw [hmx.out]; exact congrArg (Value.int .i64) (by omega), by go_num, next_ok hok hbad.out, hS5⟩
        case measure => (simp [intOf] <;> omega)
      · have hzz : (q1 != 0) = true := by simp [hz]
        have HZ := Lib.hid hz
        clear hz
        go_wp2
        go_ret
        have hf : fieldsF fs = q1 := fieldsF_at hn h0 (by omega) hlt hok hbad.out HZ.out
        exact ⟨ret_int (by rw [← hq.out, planF, if_pos (by rw [hf]; exact HZ.out), hf]), by rw [hbx.out]; have h := hS5.out.bel; rw [hbx.out] at h; exact h⟩
    · obtain rfl : k = n := by omega
      have hmi := mix_iff (fs := fs) (n := k) (fun i hi => (flds_pos hok i hi).1)
      have hfm := fieldsF_mix hn h0 (by omega) hok
      have e0 : wr.cell? ⟨bx, 0, none⟩ = some (.slice a k cap) := hS.out.k.cell 0
      have e1 : wr.cell? ⟨bx, 1, none⟩ = some (.slice ae m ce) := hS.out.k.cell 1
      have hB := Lib.hid hS.out.bel
      rw [hbx.out] at hB
      by_cases hbig : 20000 < mixK fs k
      · have hf : Hid (fieldsF fs = 2) := Lib.hid (by rw [hfm, if_pos (hmi.1 hbig)])
        have hdb : decide ((20000 : Int) < (mixK fs k : Nat)) = true := decide_eq_true (by omega)
        clear hmi hfm
        go_wp2
        go_ret
        exact ⟨ret_int (by rw [← hq.out, planF, if_pos (by rw [hf.out]; decide), hf.out]), by rw [hbx.out]; exact hB.out⟩
      have hf : Hid (fieldsF fs = 0) := Lib.hid (by rw [hfm, if_neg (fun h => hbig (hmi.2 h))])
      have hdb : decide ((20000 : Int) < (mixK fs k : Nat)) = false := decide_eq_false (by omega)
      clear hmi hfm hbig
      generalize mixK fs k = mk at *
      by_cases hm60 : 60 < m
      · have hd2 : decide ((60 : Int) < (m : Nat)) = true := decide_eq_true (by omega)
        go_wp2
        go_ret
        exact ⟨ret_int (by rw [← hq.out, planF, if_neg (by rw [hf.out]; simp), if_pos (by rw [hne.out]; exact hm60)]), by rw [hbx.out]; exact hB.out⟩
      have hd2 : decide ((60 : Int) < (m : Nat)) = false := decide_eq_false (by omega)
      clear hB
      go_wp2
      clear hdb hd2 e0 e1
      go_loopw [55] (fun i wr => ∃ j : Nat, j ≤ m ∧ i = .int .i64 j ∧ Hid (∀ i, i < j → edtBad fs es i = 0) ∧ Hid (BxSt w φ bx #[.slice a k cap, .slice ae m ce] 25 wr)) (fun i _ => m - (intOf i).toNat)
      case atStart => exact ⟨0, Nat.zero_le _, rfl, none_yet _, hS⟩
      case round =>
        clear hS
        obtain ⟨j, hj, rfl, hok2, hS⟩ := hrel
        by_cases hlt2 : j < m
        · obtain ⟨b1, o1, rfl, f1⟩ := se.edtD hne hlt2
          obtain ⟨a3, c3, s3, f1⟩ := f1 j hlt2
          obtain ⟨_, d1, d2⟩ := f1 wr hS.out.fz
          have hbad := Lib.hid (edtBad_re (fs := fs) (es := es) (k := j))
          have hgk := hge.out (es.getD j edt0) (by rw [getD_elem0 _ _ _ (by rw [hne.out]; exact hlt2)]; exact List.getElem_mem _)
          clear f1
          generalize es.getD j edt0 = X at *
          obtain ⟨nk, ck⟩ := X
          dsimp only at d1 d2 hbad hgk s3
          obtain ⟨nc, hnc⟩ : ∃ j, Hid (ck.length = j) := ⟨_, Lib.hid rfl⟩
          rw [hnc.out] at d2
          have l1 := s3.capn
          have l2 := s3.capm
          rw [hnc.out] at l1
          unfold maxLen at l2
          have hgk' : nk.size ≤ reachBytes := hgk
          have hSa := Lib.hid (hS.out.alloc (.cells #[.string nk, .slice a3 nc c3] 106))
          have hNb := Lib.hid (Blk.new wr #[.string nk, .slice a3 nc c3] 106)
          have hcp := se.capn
          rw [hne.out] at hcp
          have htk : Hid ((es.take j).length = j) := Lib.hid (by rw [List.length_take, hne.out]; omega)
          have stk := se.take j
          obtain ⟨q1, hq1⟩ : ∃ v, Hid (reB nk ck (es.take j) fs = v) := ⟨_, Lib.hid rfl⟩
          rw [hq1.out] at hbad
          go_wp2
          generalize wr.alloc (.cells #[.string nk, .slice a3 nc c3] 106) = wy at *
          generalize wr.heap.size = bn at *
          refine wp_region_still_tail 7 (by kernel_rfl) (by kernel_rfl) ?_
          simp only [List.take_succ_cons, List.take_zero, List.drop_succ_cons, List.drop_zero]
          change wpStill _ _ (World.drew wy) (fun a' => wpList _ _ _ _ a' (World.drew wy)) _ _
          have hSz := Lib.hid (hSa.out.callB (bdrewN (Below.refl wy.heap.size wy) 1))
          have hNz : Hid (Blk wy.drew bn #[.string nk, .slice a3 nc c3] 106) := hNb
          clear hSa hNb
          change Hid (BxSt w φ bx #[.slice a k cap, .slice (some ⟨b1, o1, none⟩) m ce] 25 wy.drew) at hSz
          generalize wy.drew = wz at *
          have y0 : wz.cell? ⟨bn, 0, none⟩ = some (.string nk) := hNz.out.cell 0
          have y1 : wz.cell? ⟨bn, 1, none⟩ = some (.slice a3 nc c3) := hNz.out.cell 1
          have y2 : wz.cell? ⟨bx, 0, none⟩ = some (.slice a k cap) := hSz.out.k.cell 0
          have y3 : wz.cell? ⟨bx, 1, none⟩ = some (.slice (some ⟨b1, o1, none⟩) m ce) := hSz.out.k.cell 1
          have hkc : j ≤ ce := by omega
          repeat still_step
          refine wpStill_nil ?_
          go_wp2_with fail
          refine (checkEdit_any nk nc a3 c3 ck _ φ hSz.out.fz hTT.out s3 hnc (by omega) hgk' j (some ⟨b1, o1, none⟩) ce (es.take j) stk htk (by omega) k a cap fs s hn hm hq1).mono ?_
          rintro e w5 ⟨rfl, hb5⟩
          have hS5 := Lib.hid (hSz.out.callB hb5)
          clear hb5 y0 y1 y2 y3 d1 d2 hSz hNz
          by_cases hz : q1 = 0
          · subst hz
            go_wp2
            go_roundw
            case rel => exact ⟨j + 1, by omega, by go_num, next_ok hok2 hbad.out, hS5⟩
            case measure => (simp [intOf] <;> omega)
          · have hzz : (q1 != 0) = true := by simp [hz]
            have HZ := Lib.hid hz
            clear hz
            go_wp2
            go_ret
            exact ⟨ret_int (by rw [← hq.out]; exact (planF_at hf.out hne (by omega) hlt2 hok2 hbad.out HZ.out).symm), by rw [hbx.out]; have h := hS5.out.bel; rw [hbx.out] at h; exact h⟩
        · obtain rfl : j = m := by omega
          go_wp2
          go_ret
          exact ⟨ret_int (by rw [← hq.out]; exact (planF_ok hf.out hne (by omega) hok2).symm), by rw [hbx.out]; have h := hS.out.bel; rw [hbx.out] at h; exact h⟩
end Go.Proofs.YtkfmadeeobalaaaDoor

namespace Go.Proofs.YtkfmadeeobalaaaDoor
open Go.RowKit
set_option linter.unusedVariables false
theorem RcheckRecord_any
  (n : Nat) (a : Option Addr) (cap : Nat) (fs : List Fld) (m : Nat) (ae : Option Addr) (ce : Nat) (es : List Edt) (w : World) (φ : Phi) (hφ : Fz φ w) (s : SlV φ a cap fs) (se : SlV φ ae ce es)
    (hn : Hid (fs.length = n)) (nr : Nat) (a2 : Option Addr) (c2 : Nat) (rec : List Int) (sr : SlV φ a2 c2 rec) (hrl : Hid (rec.length = nr)) (hm : nr ≤ 9223372036854775807) {q : Int} (hq : Hid (recF n rec = q)) :
    Calls Tryd.prog 38 #[.agg #[.slice a n cap, .slice ae m ce], .slice a2 nr c2] w (IntB q w) := by
  have hS0 := Lib.hid (BxSt.new hφ #[.slice a n cap, .slice ae m ce] 25)
  have hrf : Hid ((if nr ≠ n then 3 else scan (recBad rec) nr) = q) := Lib.hid (by rw [← hq.out, recF, hrl.out])
  by_cases hne : nr = n
  case neg =>
    have hb1 : ((nr : Int) != n) = true := by simp; omega
    have HNE := Lib.hid hne
    clear hne
    go_enter Tryd.func38, Tryd.ntmps38
    go_wp2
    go_ret
    exact ⟨ret_int (by rw [← hrf.out, if_pos HNE.out]), hS0.out.bel⟩
  subst hne
  have hb1 : ((nr : Int) != nr) = false := by simp
  have hrf2 : Hid (scan (recBad rec) nr = q) := Lib.hid (by have h := hrf.out; rwa [if_neg (by simp)] at h)
  go_enter Tryd.func38, Tryd.ntmps38
  go_wp2
  clear hb1
  have hF := Lib.hid hS0.out.fz
  have hB := Lib.hid hS0.out.bel
  generalize w.alloc (.cells #[.slice a nr cap, .slice ae m ce] 25) = W at *
  clear hS0
  go_loop [15] (fun i => ∃ k : Nat, k ≤ nr ∧ i = .int .i64 k ∧ Hid (∀ i, i < k → recBad rec i = 0)) (fun i => nr - (intOf i).toNat)
  case atStart => exact ⟨0, Nat.zero_le _, rfl, none_yet _⟩
  case round =>
    obtain ⟨k, hk, rfl, hok⟩ := hrel
    by_cases hlt : k < nr
    · obtain ⟨b1, o1, rfl, f1⟩ := sr.intsD hrl hlt
      have d1 := (f1 k hlt W hF.out).2
      have hbad : Hid (recBad rec k = _) := Lib.hid (recBad.eq_1 rec k)
      clear f1
      generalize rec.getD k 0 = x at *
      obtain ⟨o, ho⟩ : ∃ o, Hid (outB x 0 999 = o) := ⟨_, Lib.hid rfl⟩
      cases o
      case true =>
        go_wp2_with (go_at_call 39; refine (within_b _ _ _ _ ho.out).mono ?_; rintro e w' ⟨rfl, rfl⟩)
        go_ret
        exact ⟨ret_int (by rw [← hrf2.out, scan_stop hok.out hlt (by rw [hbad.out, if_pos ho.out]; decide), hbad.out, if_pos ho.out]), hB.out⟩
      case false =>
        go_wp2_with (go_at_call 39; refine (within_b _ _ _ _ ho.out).mono ?_; rintro e w' ⟨rfl, rfl⟩)
        go_round
        case rel => exact ⟨k + 1, by omega, by go_num, next_ok hok (by rw [hbad.out, if_neg (by rw [ho.out]; simp)])⟩
        case measure => (simp [intOf] <;> omega)
    · obtain rfl : k = nr := by omega
      go_wp2
      go_ret
      exact ⟨ret_int (by rw [← hrf2.out, scan_zero _ _ hok.out]), hB.out⟩
set_option maxHeartbeats 1000000 in
theorem Rfails_any (nm : ByteArray) (n : Nat) (a : Option Addr) (cap : Nat) (ss : List (List Int)) (w : World) (φ : Phi) (hφ : Fz φ w) (s : SlV φ a cap ss) (hn : Hid (ss.length = n)) (hm : n ≤ 9223372036854775807) (a2 : Option Addr) (c2 : Nat) (rec : List Int) (sr : SlV φ a2 c2 rec) (hrl : Hid (rec.length = n)) {b : Bool} (hb : Hid (hitB ss rec n = b)) :
    Calls Tryd.prog 80 #[.agg #[.string nm, .slice a n cap], .slice a2 n c2] w (BoolB b w) := by
  have hS0 := Lib.hid (BxSt.new hφ #[.string nm, .slice a n cap] 106)
  go_enter Tryd.func80, Tryd.ntmps80
  go_wp2
  have hF := Lib.hid hS0.out.fz
  have hB := Lib.hid hS0.out.bel
  clear hS0
  generalize w.alloc (.cells #[.string nm, .slice a n cap] 106) = W at *
  go_loop [10] (fun i => ∃ k : Nat, k ≤ n ∧ i = .int .i64 k ∧ Hid (∀ i, i < k → rec.getD i 0 ∈ ss.getD i [])) (fun i => n - (intOf i).toNat)
  case atStart => exact ⟨0, Nat.zero_le _, rfl, Lib.hid (fun i hi => by omega)⟩
  case round =>
    obtain ⟨k, hk, rfl, hok⟩ := hrel
    by_cases hlt : k < n
    · obtain ⟨b1, o1, rfl, f1⟩ := sr.intsD hrl hlt
      have d1 := (f1 k hlt W hF.out).2
      obtain ⟨b2, o2, rfl, f2⟩ := s.lists hn hlt
      obtain ⟨a3, c3, s3, f2⟩ := f2 k hlt
      have d2 := (f2 W hF.out).2
      have HF : Hid (¬ rec.getD k 0 ∈ ss.getD k [] → b = false) := Lib.hid (fun h => hb.out.symm.trans (hitB_false hlt h))
      have HN : Hid (rec.getD k 0 ∈ ss.getD k [] → ∀ i, i < k + 1 → rec.getD i 0 ∈ ss.getD i []) := Lib.hid (fun h i hi => by
        by_cases e : i = k
        · subst e; exact h
        · exact hok.out i (by omega))
      clear f1 f2
      generalize rec.getD k 0 = x at *
      generalize ss.getD k [] = st at *
      obtain ⟨n2, hn2⟩ : ∃ n2, Hid (st.length = n2) := ⟨_, Lib.hid rfl⟩
      rw [hn2.out] at d2
      have e3 := s3.capn
      have e4 := s3.capm
      rw [hn2.out] at e3
      unfold maxLen at e4
      obtain ⟨o, ho⟩ : ∃ o, Hid (decide (x ∈ st) = o) := ⟨_, Lib.hid rfl⟩
      cases o
      · go_wp2_with (go_at_call 81; refine (Contains_b n2 a3 c3 st x W φ hF.out s3 hn2 (by omega) ho.out).mono ?_; rintro e w' ⟨rfl, rfl⟩)
        go_ret
        exact ⟨ret_bool (HF.out (by simpa using ho.out)).symm, hB.out⟩
      · go_wp2_with (go_at_call 81; refine (Contains_b n2 a3 c3 st x W φ hF.out s3 hn2 (by omega) ho.out).mono ?_; rintro e w' ⟨rfl, rfl⟩)
        go_round
        case rel => exact ⟨k + 1, by omega, by go_num, Lib.hid (HN.out (by simpa using ho.out))⟩
        case measure => (simp [intOf] <;> omega)
    · obtain rfl : k = n := by omega
      go_wp2
      go_ret
      exact ⟨ret_bool ((hitB_true hok.out).symm.trans hb.out), hB.out⟩
structure RfSt2 (w0 : World) (φ : Phi) (bx : Nat) (cs : Array Value) (ao : Option Addr) (co : Nat) (xs : List Int) (w : World) : Prop where
  inv : Inv w0.heap.size w0 φ φ w
  own : Own w0.heap.size φ w 3 ao co xs
  k : Blk w bx cs 25
  far : ∀ x, ao = some x → x.block ≠ bx
theorem RfSt2.callB {w0 w w' : World} {φ : Phi} {bx : Nat} {cs : Array Value} {ao : Option Addr} {co : Nat} {xs : List Int} (h : RfSt2 w0 φ bx cs ao co xs w) (hb : Below w.heap.size w w') : RfSt2 w0 φ bx cs ao co xs w' := ⟨h.inv.callB hb, h.own.callB hb, h.k.callB hb, h.far⟩
theorem RfSt2.app {w0 w w' : World} {φ : Phi} {bx : Nat} {cs : Array Value} {ao a' : Option Addr} {co c' : Nat} {xs xs' : List Int} (h : RfSt2 w0 φ bx cs ao co xs w) {o : Obj} (hi : Inv w0.heap.size w0 φ φ w') (ho : Own w0.heap.size φ w' 3 a' c' xs') (hg : (w.alloc o).grownBy w' (ao.map (·.block))) (hf : ∀ x, a' = some x → ao.map (·.block) = some x.block ∨ (w.alloc o).heap.size ≤ x.block) : RfSt2 w0 φ bx cs a' c' xs' w' := by
  have k := h.callB ((Below.refl _ _).alloc (Nat.le_refl _) o)
  refine ⟨hi, ho, (hg.block bx k.k.lt (fun e => ?_)).trans k.k, fun x hx => ?_⟩
  · cases ao with
    | none => cases e
    | some z => exact h.far z rfl (by simpa using e.symm)
  · rcases hf x hx with hh | hh
    · cases ao with
      | none => cases hh
      | some z => have := h.far z rfl; simp at hh; omega
    · have := k.k.lt; omega
set_option maxHeartbeats 1000000 in
theorem Rfailed_any
  (n : Nat) (a : Option Addr) (cap : Nat) (fs : List Fld) (m : Nat) (ae : Option Addr) (ce : Nat) (es : List Edt) (w : World) (φ : Phi) (hφ : Fz φ w) (s : SlV φ a cap fs) (se : SlV φ ae ce es)
    (ok : PlOk fs es n m) (a2 : Option Addr) (c2 : Nat) (rec : List Int) (sr : SlV φ a2 c2 rec) (hrl : Hid (rec.length = n)) :
    Calls Tryd.prog 41 #[.agg #[.slice a n cap, .slice ae m ce], .slice a2 n c2] w (OwnPost (failL es rec n m) φ w) := by
  have hm60 := ok.cnt
  have hn12 := ok.pos
  have hne := Lib.hid ok.elen
  have hed := Lib.hid ok.edt
  have hS0 : Hid (RfSt2 w φ w.heap.size #[.slice a n cap, .slice ae m ce] none 0 (failL es rec n 0) (w.alloc (.cells #[.slice a n cap, .slice ae m ce] 25))) := Lib.hid ⟨(Inv.start hφ).alloc _, Own.nil _ _ _ _, Blk.new w _ _, fun _ h => by cases h⟩
  go_enter Tryd.func41, Tryd.ntmps41
  go_wp2
  generalize w.alloc (.cells #[.slice a n cap, .slice ae m ce] 25) = W at *
  generalize hbx : w.heap.size = bx at *
  replace hbx := Lib.hid hbx
  go_loopw [5, 11] (fun sl i wr => ∃ (k : Nat) (ao : Option Addr) (co : Nat), k ≤ m ∧ sl = .slice ao (failL es rec n k).length co ∧ i = .int .i64 k ∧ Hid (RfSt2 w φ bx #[.slice a n cap, .slice ae m ce] ao co (failL es rec n k) wr)) (fun _ i _ => m - (intOf i).toNat)
  case atStart => exact ⟨0, none, 0, Nat.zero_le _, rfl, rfl, hS0⟩
  case round =>
    clear hS0
    obtain ⟨k, ao, co, hk, rfl, rfl, hS⟩ := hrel
    by_cases hlt : k < m
    · obtain ⟨b1, o1, rfl, f1⟩ := se.edtD hne hlt
      obtain ⟨a3, c3, s3, f1⟩ := f1 k hlt
      obtain ⟨_, d1, d2⟩ := f1 wr hS.out.inv.fz
      have hsn := (hed.out k hlt).1
      have hl := Lib.hid (failL_len es rec n k)
      obtain ⟨o, ho⟩ : ∃ o, Hid (hitB (es.getD k edt0).2 rec n = o) := ⟨_, Lib.hid rfl⟩
      have HT := Lib.hid (fun h : hitB (es.getD k edt0).2 rec n = true => failL_t h)
      have HFF := Lib.hid (fun h : hitB (es.getD k edt0).2 rec n = false => failL_f h)
      clear f1
      generalize es.getD k edt0 = X at *
      obtain ⟨nk, ck⟩ := X
      dsimp only at d1 d2 hsn ho s3 HT HFF
      rw [hsn] at d2
      have hnc : Hid (ck.length = n) := Lib.hid hsn
      have hSa := Lib.hid (hS.out.callB ((Below.refl _ _).alloc (Nat.le_refl _) (.cells #[.string nk, .slice a3 n c3] 106)))
      have hNb := Lib.hid (Blk.new wr #[.string nk, .slice a3 n c3] 106)
      clear hsn
      go_wp2_with fail
      refine (Rfails_any nk n a3 c3 ck _ φ hSa.out.inv.fz s3 hnc (by omega) a2 c2 rec sr hrl ho).mono ?_
      rintro e w5 ⟨rfl, hb5⟩
      have hS5 := Lib.hid (hSa.out.callB hb5)
      clear hSa hNb d1 d2 hb5
      cases o
      case true =>
        have H2 := Lib.hid (HT.out ho.out)
        have hin := hS5.out.inv
        have hon := hS5.out.own
        go_wp2_with (at_builtin; refine wpList_app1F (α := Int) rfl _ _ 32 rfl slI hin ao co _ hon _ _ (k : Int) rfl rfl 1 rfl (by have := hl.out; omega) ?_; intro a4 c4 w4 hi4 ho4 hg4 hf4)
        go_roundw
        case rel => exact ⟨k + 1, a4, c4, by omega, by rw [H2.out]; simp, by go_num, by rw [H2.out]; exact Lib.hid (hS5.out.app hi4 ho4 hg4 hf4)⟩
        case measure => (simp [intOf] <;> omega)
      case false =>
        have H2 := Lib.hid (HFF.out ho.out)
        go_wp2
        go_roundw
        case rel => exact ⟨k + 1, ao, co, by omega, by rw [H2.out], by go_num, by rw [H2.out]; exact hS5⟩
        case measure => (simp [intOf] <;> omega)
    · obtain rfl : k = m := by omega
      go_wp2
      go_ret
      exact ⟨ao, co, rfl, hS.out.inv, hS.out.own⟩
end Go.Proofs.YtkfmadeeobalaaaDoor

namespace Go.Proofs.YtkfmadeeobalaaaDoor
open Go.RowKit
set_option linter.unusedVariables false
theorem Fz.drewN {φ : Phi} {w : World} (h : Fz φ w) (n : Nat) : Fz φ (w.drewN n) := h
theorem Contains_q (n : Nat) (a : Option Addr) (cap : Nat) (xs : List Int) (x : Int) (w : World) (φ : Phi) (hφ : Fz φ w) (s : SlV φ a cap xs) (hn : Hid (xs.length = n)) (hm : n ≤ 9223372036854775807) {b : Bool} (h : decide (x ∈ xs) = b) :
    Calls Tryd.prog 81 #[.slice a n cap, .int .i64 x] w fun e w' => e = .returned (.bool b) ∧ w' = w := (Contains_b n a cap xs x w φ hφ s hn hm h).mono fun e w' h => ⟨h.1, h.2.symm⟩
set_option maxHeartbeats 1000000 in
theorem Rpasses_any
  (n : Nat) (a : Option Addr) (cap : Nat) (fs : List Fld) (m : Nat) (ae : Option Addr) (ce : Nat) (es : List Edt) (w : World) (φ : Phi) (hφ : Fz φ w) (s : SlV φ a cap fs) (se : SlV φ ae ce es)
    (ok : PlOk fs es n m) (a2 : Option Addr) (c2 : Nat) (rec : List Int) (sr : SlV φ a2 c2 rec) (hrl : Hid (rec.length = n)) {b : Bool} (hb : Hid (passB fs es rec n m = b)) :
    Calls Tryd.prog 32 #[.agg #[.slice a n cap, .slice ae m ce], .slice a2 n c2] w (BoolB b w) := by
  have hn12 := ok.pos
  have hfl := Lib.hid ok.len
  have hok := Lib.hid ok
  have hS0 := Lib.hid (BxSt.new hφ #[.slice a n cap, .slice ae m ce] 25)
  go_enter Tryd.func32, Tryd.ntmps32
  go_wp2
  generalize w.alloc (.cells #[.slice a n cap, .slice ae m ce] 25) = W at *
  generalize hbx : w.heap.size = bx at *
  replace hbx := Lib.hid hbx
  go_loopw [10] (fun i wr => ∃ k : Nat, k ≤ n ∧ i = .int .i64 k ∧ Hid (∀ i, i < k → rec.getD i 0 ∈ (fs.getD i fld0).2.1) ∧ Hid (BxSt w φ bx #[.slice a n cap, .slice ae m ce] 25 wr)) (fun i _ => n - (intOf i).toNat)
  case atStart => exact ⟨0, Nat.zero_le _, rfl, Lib.hid (fun i hi => by omega), hS0⟩
  case round =>
    clear hS0
    obtain ⟨k, hk, rfl, hv, hS⟩ := hrel
    by_cases hlt : k < n
    · obtain ⟨b1, o1, rfl, f1⟩ := s.fldD hfl hlt
      obtain ⟨a3, c3, s3, f1⟩ := f1 k hlt
      obtain ⟨_, d1, d2, d3⟩ := f1 wr hS.out.fz
      obtain ⟨b4, o4, rfl, f4⟩ := sr.intsD hrl hlt
      have HF : Hid (¬ rec.getD k 0 ∈ (fs.getD k fld0).2.1 → b = false) := Lib.hid (fun h => by rw [← hb.out, passB, validB_false hlt h]; rfl)
      have HN : Hid (rec.getD k 0 ∈ (fs.getD k fld0).2.1 → ∀ i, i < k + 1 → rec.getD i 0 ∈ (fs.getD i fld0).2.1) := Lib.hid (fun h i hi => by
        by_cases e : i = k
        · subst e; exact h
        · exact hv.out i (by omega))
      clear f1
      generalize fs.getD k fld0 = X at *
      obtain ⟨nk, ck, wk⟩ := X
      dsimp only at d1 d2 d3 s3 HF HN
      obtain ⟨nc, hnc⟩ : ∃ j, Hid (ck.length = j) := ⟨_, Lib.hid rfl⟩
      rw [hnc.out] at d2
      have l1 := s3.capn
      have l2 := s3.capm
      rw [hnc.out] at l1
      unfold maxLen at l2
      have hSa := Lib.hid (hS.out.alloc (.cells #[.string nk, .slice a3 nc c3, .int .i64 wk] 92))
      have hNb := Lib.hid (Blk.new wr #[.string nk, .slice a3 nc c3, .int .i64 wk] 92)
      have y4 := (f4 k hlt _ hSa.out.fz).2
      clear f4
      generalize rec.getD k 0 = x at *
      go_wp2
      clear d1 d2 d3
      generalize wr.alloc (.cells #[.string nk, .slice a3 nc c3, .int .i64 wk] 92) = wy at *
      generalize wr.heap.size = bn at *
      have y1 : wy.cell? ⟨bn, 1, none⟩ = some (.slice a3 nc c3) := hNb.out.cell 1
      obtain ⟨o, ho⟩ : ∃ o, Hid (decide (x ∈ ck) = o) := ⟨_, Lib.hid rfl⟩
      cases o
      case false =>
        have HE := Lib.hid (HF.out (by simpa using ho.out))
        go_quiet ((go_at_call 81; exact Calls.quiet_of_same (Contains_q nc a3 c3 ck x _ φ (Fz.drewN hSa.out.fz _) s3 hnc (by omega) ho.out)))
        go_wp2
        go_ret
        exact ⟨ret_bool HE.out.symm, by rw [hbx.out]; have h := (hSa.out.callB (bdrewN (Below.refl _ _) nq)).bel; rw [hbx.out] at h; exact h⟩
      case true =>
        have HE := Lib.hid (HN.out (by simpa using ho.out))
        go_quiet ((go_at_call 81; exact Calls.quiet_of_same (Contains_q nc a3 c3 ck x _ φ (Fz.drewN hSa.out.fz _) s3 hnc (by omega) ho.out)))
        go_wp2
        go_roundw
        case rel => exact ⟨k + 1, by omega, by go_num, HE, Lib.hid (hSa.out.callB (bdrewN (Below.refl _ _) _))⟩
        case measure => (simp [intOf] <;> omega)
    · obtain rfl : k = n := by omega
      obtain ⟨l, hl⟩ : ∃ l, Hid (failL es rec k m = l) := ⟨_, Lib.hid rfl⟩
      have hbb : Hid (b = decide (l.length = 0)) := Lib.hid (by rw [← hb.out, passB, validB_true hv.out, hl.out]; rfl)
      have e0 : wr.cell? ⟨bx, 0, none⟩ = some (.slice a k cap) := hS.out.k.cell 0
      have e1 : wr.cell? ⟨bx, 1, none⟩ = some (.slice ae m ce) := hS.out.k.cell 1
      go_wp2_with fail
      refine (Rfailed_any k a cap fs m ae ce es _ φ hS.out.fz s se hok.out a2 c2 rec sr hrl).mono ?_
      rintro e w5 ⟨a5, c5, rfl, hi5, ho5⟩
      rw [hl.out]
      have hB := Lib.hid (hS.out.callB hi5.bel).bel
      clear hi5 ho5
      rw [hbx.out] at hB
      go_wp2
      go_ret
      exact ⟨ret_bool (by rw [hbb.out, Bool.eq_iff_iff]; simp), by rw [hbx.out]; exact hB.out⟩
def failsR (fs : List Fld) (es : List Edt) (rec : List Int) (F : Int) : List Int := if F = 0 then failL es rec fs.length es.length else []
end Go.Proofs.YtkfmadeeobalaaaDoor
