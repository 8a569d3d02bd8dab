/- Frames of codes: walks of the checks of titles and nodes on the program's side. Frames of codes: walks of the checks of nodes, on the program's side. Plain law of frames of codes: places of codes, chains of parents, levels. No program in sight. The tree of a frame in memory, and the walks of its small methods. Conditions: the tree is in memory as told. The walks of up and measure. Conditions: the tree is in memory as told. The walk of measure. Conditions: the tree is in memory as told. The walk of treeOf. Conditions: the nodes are in memory as told. The walk of coded. Conditions: the nodes and codes are in memory as told. The walks of codingsFault, coders and CheckCodings. Conditions: none beyond what the claim form gives. -/
import Derived.Test.YtngogjookldidaaGreatDoorLB
import Derived.StillTailTactics
namespace Go.Proofs.YtngogjookldidaaGreatDoor
open Go.RowKit
set_option linter.unusedVariables false
set_option linter.unusedSimpArgs false

theorem outside_any (n lo hi : Int) (w : World) :
    Calls Tryz.prog 35 #[.int .i64 n, .int .i64 lo, .int .i64 hi] w fun e w' => e = .returned (.bool (outB n lo hi)) ∧ w = w' := by
  go_enter Tryz.func35, Tryz.ntmps35
  by_cases h : n < lo
  · go_wp2
    go_ret
    exact ⟨by simp [outB, h], rfl⟩
  · go_wp2
    go_ret
    exact ⟨by simp [outB]; omega, rfl⟩
theorem outside_t (n lo hi : Int) (w : World) (h : outB n lo hi = true) :
    Calls Tryz.prog 35 #[.int .i64 n, .int .i64 lo, .int .i64 hi] w fun e w' => e = .returned (.bool true) ∧ w = w' := by rw [← h]; exact outside_any n lo hi w
theorem outside_f (n lo hi : Int) (w : World) (h : outB n lo hi = false) :
    Calls Tryz.prog 35 #[.int .i64 n, .int .i64 lo, .int .i64 hi] w fun e w' => e = .returned (.bool false) ∧ w = w' := by rw [← h]; exact outside_any n lo hi w

/-- A byte of a string, as a number. -/
def byt (s : ByteArray) (k : Nat) : Int := if h : k < s.size then (s[k].toNat : Int) else 0
theorem byt_eq (s : ByteArray) (k : Nat) (h : k < s.size) : byt s k = (s[k].toNat : Int) := by rw [byt, dif_pos h]
theorem byt_bd (s : ByteArray) (k : Nat) : 0 ≤ byt s k ∧ byt s k < 256 := by
  unfold byt
  split
  · have := UInt8.toNat_lt (s[k]'(by assumption)); omega
  · omega
/-- The form of a title. -/
def titleP (s : ByteArray) : Prop := (∀ k, k < s.size → outB (byt s k) 32 126 = false) ∧ 0 < s.size ∧ byt s 0 ≠ 32 ∧ byt s (s.size - 1) ≠ 32
noncomputable def titleB (s : ByteArray) : Bool := @decide (titleP s) (Classical.propDecidable _)
theorem titleB_true {s : ByteArray} (h : titleP s) : titleB s = true := by unfold titleB; exact @decide_eq_true _ (Classical.propDecidable _) h
theorem titleB_false {s : ByteArray} (h : ¬ titleP s) : titleB s = false := by unfold titleB; exact @decide_eq_false _ (Classical.propDecidable _) h
theorem isEmpty_iff (s : ByteArray) : s.toList.isEmpty = decide (s.size = 0) := by
  rw [ByteArray.toList_eq]
  have h : s.data.toList.length = s.size := rfl
  rw [← h]
  cases s.data.toList <;> simp

set_option maxHeartbeats 400000 in
theorem isTitle_any (s : ByteArray) (w : World) (hs : s.size ≤ 1000000000) :
    Calls Tryz.prog 112 #[.string s] w fun e w' => e = .returned (.bool (titleB s)) ∧ w = w' := by
  go_enter Tryz.func112, Tryz.ntmps112
  go_wp2
  go_loop [3] (fun i => ∃ k : Nat, k ≤ s.size ∧ i = .int .i64 k ∧ Hid (∀ i, i < k → outB (byt s i) 32 126 = false)) (fun i => s.size - (intOf i).toNat)
  case atStart => exact ⟨0, Nat.zero_le _, rfl, Lib.hid (fun i hi => by omega)⟩
  case round =>
    obtain ⟨k, hk, rfl, hok⟩ := hrel
    by_cases hlt : k < s.size
    · have hb := byt_bd s k
      have he := Lib.hid (byt_eq s k hlt)
      have hc : ((s[k]'hlt).toNat : Int) < 256 := by rw [← he.out]; omega
      go_wp2_with fail
      rw [← he.out]
      by_cases h1 : outB (byt s k) 32 126 = true
      · have H1 := Lib.hid h1
        clear h1
        refine (outside_t _ _ _ _ H1.out).mono ?_
        rintro e w' ⟨rfl, rfl⟩
        go_wp2
        go_ret
        exact ⟨ret_bool (titleB_false (fun h => by have := h.1 k hlt; rw [H1.out] at this; cases this)).symm, rfl⟩
      · have H1 := Lib.hid (Bool.not_eq_true _ ▸ h1 : outB (byt s k) 32 126 = false)
        clear h1
        refine (outside_f _ _ _ _ H1.out).mono ?_
        rintro e w' ⟨rfl, rfl⟩
        go_wp2
        go_round
        case rel => exact ⟨k + 1, by omega, by go_num, Lib.hid (fun i hi => by
          by_cases e : i = k
          · subst e; exact H1.out
          · exact hok.out i (by omega))⟩
        case measure => simp [intOf]; omega
    · obtain rfl : k = s.size := by omega
      by_cases hz : s.size = 0
      · have he : s.toList.isEmpty = true := by rw [isEmpty_iff]; simp [hz]
        have HZ := Lib.hid hz
        clear hz
        go_wp2
        go_ret
        exact ⟨ret_bool (titleB_false (fun h => by have := h.2.1; have := HZ.out; omega)).symm, rfl⟩
      · have he : s.toList.isEmpty = false := by rw [isEmpty_iff]; simp [hz]
        have hp : 0 < s.size := by omega
        have hp2 : s.size - 1 < s.size := by omega
        have b0 := Lib.hid (byt_eq s 0 hp)
        have b1 := Lib.hid (byt_eq s (s.size - 1) hp2)
        clear hz
        go_wp2
        · have h0 : ((s[0]'hp).toNat : Int) = 32 := by assumption
          go_ret
          exact ⟨ret_bool (titleB_false (fun h => h.2.2.1 (b0.out.trans h0))).symm, rfl⟩
        · have h0 : ¬ ((s[0]'hp).toNat : Int) = 32 := by assumption
          go_ret
          refine ⟨ret_bool ?_, rfl⟩
          by_cases h1 : byt s (s.size - 1) = 32
          · rw [titleB_false (fun h => h.2.2.2 h1), ← b1.out, h1]; simp
          · rw [titleB_true ⟨hok.out, hp, fun e => h0 (b0.out.symm.trans e), h1⟩, ← b0.out, ← b1.out]
            have h0' : byt s 0 ≠ 32 := fun e => h0 (b0.out.symm.trans e)
            simp [h0', h1]
end Go.Proofs.YtngogjookldidaaGreatDoor

namespace Go.Proofs.YtngogjookldidaaGreatDoor
open Go.RowKit
set_option linter.unusedVariables false
set_option linter.unusedSimpArgs false

abbrev Nod := Int × Int × ByteArray
abbrev nod0 : Nod := (0, 0, ByteArray.empty)
theorem SlV.nodesD {φ : Phi} {a : Option Addr} {cap : Nat} {xs : List Nod} (h : SlV φ a cap xs) {k n : Nat} (hn : Hid (xs.length = n)) (hk : k < n) :
    ∃ b off, a = some ⟨b, off, none⟩ ∧ ∀ k, k < n → ∀ w, Fz φ w → b < w.heap.size ∧ w.cell? ⟨b, off + k * 3, none⟩ = some (.int .i64 (xs.getD k nod0).1) ∧ w.cell? ⟨b, off + k * 3 + 1, none⟩ = some (.int .i64 (xs.getD k nod0).2.1) ∧ w.cell? ⟨b, off + k * 3 + 2, none⟩ = some (.string (xs.getD k nod0).2.2) := by
  obtain ⟨b, off, ha, hc⟩ := h.at_ (by intro e; subst e; have := hn.out; simp at this; omega)
  refine ⟨b, off, ha, fun k hk w hw => ?_⟩
  have hk' : k < xs.length := by rw [hn.out]; exact hk
  obtain ⟨cs, hr, hj⟩ := hc k hk'
  obtain ⟨c, d, rfl, h1, c2, d2, rfl, h2, h3⟩ := hr
  have h1' : c = [.int .i64 xs[k].1] := h1
  have h2' : c2 = [.int .i64 xs[k].2.1] := h2
  have h3' : d2 = [.string xs[k].2.2] := h3
  subst h1'; subst h2'; subst h3'
  have j0 := hj 0 (by simp)
  have j1 := hj 1 (by simp)
  have j2 := hj 2 (by simp)
  simp [Rep.size] at j0 j1 j2
  rw [getD_elem0 _ _ _ hk']
  exact ⟨hw.lt j0, hw.cell j0, hw.cell j1, hw.cell j2⟩

abbrev cod (l : List Nod) (k : Nat) : Int := (l.getD k nod0).1
abbrev par0 (l : List Nod) (k : Nat) : Int := (l.getD k nod0).2.1
abbrev tit (l : List Nod) (k : Nat) : ByteArray := (l.getD k nod0).2.2
noncomputable def nodeBad (l : List Nod) (k : Nat) : Int :=
  if outB ((l.getD k nod0).1) 1 999 = true then 1
  else if 0 < k ∧ (l.getD k nod0).1 ≤ (l.getD (k - 1) nod0).1 then 7
  else if 60 < ((l.getD k nod0).2.2).size then 2
  else if titleB ((l.getD k nod0).2.2) = false then 3 else 0
noncomputable def nodesF (l : List Nod) : Int := if l.length = 0 then 9 else if 600 < l.length then 2 else scan (nodeBad l) l.length
theorem nodesF_at {l : List Nod} {n k : Nat} (hn : Hid (l.length = n)) (h0 : 0 < n) (hl : n ≤ 600) (hk : k < n) (h : Hid (∀ i, i < k → nodeBad l i = 0)) {c : Int} (hc : nodeBad l k = c) (hc0 : c ≠ 0) : nodesF l = c := by
  rw [nodesF, hn.out, if_neg (by omega), if_neg (by omega), scan_stop h.out hk (by rw [hc]; exact hc0), hc]
theorem nodesF_ok {l : List Nod} {n : Nat} (hn : Hid (l.length = n)) (h0 : 0 < n) (hl : n ≤ 600) (h : Hid (∀ i, i < n → nodeBad l i = 0)) : nodesF l = 0 := by
  rw [nodesF, hn.out, if_neg (by omega), if_neg (by omega), scan_zero _ _ h.out]
theorem isTitle_t (s : ByteArray) (w : World) (hs : s.size ≤ 1000000000) (h : titleB s = true) :
    Calls Tryz.prog 112 #[.string s] w fun e w' => e = .returned (.bool true) ∧ w = w' := by rw [← h]; exact isTitle_any s w hs
theorem isTitle_f (s : ByteArray) (w : World) (hs : s.size ≤ 1000000000) (h : titleB s = false) :
    Calls Tryz.prog 112 #[.string s] w fun e w' => e = .returned (.bool false) ∧ w = w' := by rw [← h]; exact isTitle_any s w hs

set_option maxHeartbeats 1000000 in
theorem nodesFault_any (n : Nat) (a : Option Addr) (cap : Nat) (l : List Nod) (w : World) (φ : Phi) (hφ : Fz φ w) (s : SlV φ a cap l) (hn : Hid (l.length = n)) (hm : n ≤ 9223372036854775807) :
    Calls Tryz.prog 73 #[.slice a n cap] w (IntB (nodesF l) w) := by
  by_cases z : n = 0
  · have Z := Lib.hid z
    have zb : ((n : Int) == 0) = true := by simp [z]
    clear z
    go_enter Tryz.func73, Tryz.ntmps73
    go_wp2
    go_ret
    exact ⟨ret_int (by rw [nodesF, hn.out, if_pos Z.out]), Below.refl _ _⟩
  have zb : ((n : Int) == 0) = false := by simp; omega
  by_cases hl : 600 < n
  · go_enter Tryz.func73, Tryz.ntmps73
    go_wp2
    go_ret
    exact ⟨ret_int (by rw [nodesF, hn.out, if_neg z, if_pos hl]), Below.refl _ _⟩
  have h0 : 0 < n := by omega
  have z := Lib.hid z
  go_enter Tryz.func73, Tryz.ntmps73
  go_wp2
  clear zb
  go_loopw [13] (fun i wr => ∃ k : Nat, k ≤ n ∧ i = .int .i64 k ∧ Hid (∀ i, i < k → nodeBad l i = 0) ∧ Below w.heap.size w wr) (fun i _ => n - (intOf i).toNat)
  case atStart => exact ⟨0, Nat.zero_le _, rfl, none_yet _, Below.refl _ _⟩
  case round =>
    obtain ⟨k, hk, rfl, hok, hbel⟩ := hrel
    by_cases hlt : k < n
    · obtain ⟨b, off, rfl, f⟩ := s.nodesD hn hlt
      have hf := hφ.below hbel
      obtain ⟨hb, c1, c2, c3⟩ := f k hlt wr hf
      have hp : 0 < k → wr.cell? ⟨b, off + (k - 1) * 3, none⟩ = some (.int .i64 (l.getD (k - 1) nod0).1) := fun h => (f (k - 1) (by omega) wr hf).2.1
      have hbad : Hid (nodeBad l k = _) := Lib.hid (nodeBad.eq_1 l k)
      have HP := Lib.hid hp
      clear f hp
      generalize (l.getD k nod0).1 = m at *
      generalize (l.getD k nod0).2.1 = pa at *
      generalize (l.getD k nod0).2.2 = ti at *
      generalize (l.getD (k - 1) nod0).1 = p at *
      have hbel2 : ∀ o, Below w.heap.size w (wr.alloc o) := fun o => hbel.alloc hbel.size o
      by_cases h1 : outB m 1 999 = true
      · have H1 := Lib.hid h1
        clear h1
        go_wp2_with fail
        refine (outside_t _ _ _ _ H1.out).mono ?_
        rintro e w' ⟨rfl, rfl⟩
        go_wp2
        go_ret
        exact ⟨ret_int (nodesF_at hn h0 (by omega) hlt hok (by rw [hbad.out, if_pos H1.out]) (by decide)).symm, hbel2 _⟩
      have H1 := Lib.hid (Bool.not_eq_true _ ▸ h1 : outB m 1 999 = false)
      clear h1
      go_wp2_with fail
      refine (outside_f _ _ _ _ H1.out).mono ?_
      rintro e w' ⟨rfl, rfl⟩
      have e1 : Hid (¬ outB m 1 999 = true) := Lib.hid (by rw [H1.out]; simp)
      by_cases h3 : 0 < k
      · have hpp := HP.out h3
        have h3i : (0 : Int) < k := by omega
        have hix : 0 ≤ (k : Int) - 1 := by omega
        have hix2 : (k : Int) - 1 < n := by omega
        have hw1 : IntKind.i64.wrap ((k : Int) - 1) = k - 1 := IntWalk.i64_in _ (by omega)
        have hto : ((k : Int) - 1).toNat = k - 1 := by omega
        by_cases h4 : m ≤ p
        · go_wp2_with fail
          go_quiet (fail)
          clear hw1 hto
          go_wp2
          go_ret
          exact ⟨ret_int (nodesF_at hn h0 (by omega) hlt hok (by rw [hbad.out, if_neg e1.out, if_pos ⟨h3, h4⟩]) (by decide)).symm, bdrewN (hbel2 _) _⟩
        have e2 : Hid (¬ (0 < k ∧ m ≤ p)) := Lib.hid (fun h => h4 h.2)
        go_wp2_with fail
        go_quiet (fail)
        clear hw1 hto
        by_cases h5 : 60 < ti.size
        · go_wp2
          go_ret
          exact ⟨ret_int (nodesF_at hn h0 (by omega) hlt hok (by rw [hbad.out, if_neg e1.out, if_neg e2.out, if_pos h5]) (by decide)).symm, bdrewN (hbel2 _) _⟩
        by_cases h6 : titleB ti = true
        · have H6 := Lib.hid h6
          clear h6
          go_wp2_with fail
          refine (isTitle_t _ _ (by omega) H6.out).mono ?_
          rintro e w' ⟨rfl, rfl⟩
          go_wp2
          go_roundw
          case rel => exact ⟨k + 1, by omega, by go_num, next_ok hok (by rw [hbad.out, if_neg e1.out, if_neg e2.out, if_neg h5, if_neg (by rw [H6.out]; simp)]), bdrewN (hbel2 _) _⟩
          case measure => simp [intOf]; omega
        · have H6 := Lib.hid (Bool.not_eq_true _ ▸ h6 : titleB ti = false)
          clear h6
          go_wp2_with fail
          refine (isTitle_f _ _ (by omega) H6.out).mono ?_
          rintro e w' ⟨rfl, rfl⟩
          go_wp2
          go_ret
          exact ⟨ret_int (nodesF_at hn h0 (by omega) hlt hok (by rw [hbad.out, if_neg e1.out, if_neg e2.out, if_neg h5, if_pos H6.out]) (by decide)).symm, bdrewN (hbel2 _) _⟩
      · have h3i : decide ((0 : Int) < k) = false := decide_eq_false (by omega)
        have e2 : Hid (¬ (0 < k ∧ m ≤ p)) := Lib.hid (fun h => h3 h.1)
        go_wp2_with fail
        go_quiet (fail)
        by_cases h5 : 60 < ti.size
        · go_wp2
          go_ret
          exact ⟨ret_int (nodesF_at hn h0 (by omega) hlt hok (by rw [hbad.out, if_neg e1.out, if_neg e2.out, if_pos h5]) (by decide)).symm, bdrewN (hbel2 _) _⟩
        by_cases h6 : titleB ti = true
        · have H6 := Lib.hid h6
          clear h6
          go_wp2_with fail
          refine (isTitle_t _ _ (by omega) H6.out).mono ?_
          rintro e w' ⟨rfl, rfl⟩
          go_wp2
          go_roundw
          case rel => exact ⟨k + 1, by omega, by go_num, next_ok hok (by rw [hbad.out, if_neg e1.out, if_neg e2.out, if_neg h5, if_neg (by rw [H6.out]; simp)]), bdrewN (hbel2 _) _⟩
          case measure => simp [intOf]; omega
        · have H6 := Lib.hid (Bool.not_eq_true _ ▸ h6 : titleB ti = false)
          clear h6
          go_wp2_with fail
          refine (isTitle_f _ _ (by omega) H6.out).mono ?_
          rintro e w' ⟨rfl, rfl⟩
          go_wp2
          go_ret
          exact ⟨ret_int (nodesF_at hn h0 (by omega) hlt hok (by rw [hbad.out, if_neg e1.out, if_neg e2.out, if_neg h5, if_pos H6.out]) (by decide)).symm, bdrewN (hbel2 _) _⟩
    · obtain rfl : k = n := by omega
      go_wp2
      go_ret
      exact ⟨ret_int (nodesF_ok hn h0 (by omega) hok).symm, hbel⟩
end Go.Proofs.YtngogjookldidaaGreatDoor

namespace Go.Proofs.YtngogjookldidaaGreatDoor
set_option linter.unusedVariables false
set_option linter.unusedSimpArgs false

/-- The place of a code among the first k. -/
def ixTo (l : List Nod) (c : Int) : Nat → Option Nat
  | 0 => none
  | k + 1 => if cod l k = c then some k else ixTo l c k
def ix (l : List Nod) (c : Int) : Option Nat := ixTo l c l.length
def atV (l : List Nod) (c : Int) : Nat := (ix l c).getD 0
def parC (l : List Nod) (c : Int) : Int := par0 l (atV l c)
/-- The number of steps up to 0, if it is at most f. -/
def lvA (l : List Nod) : Nat → Int → Option Nat
  | 0, c => if c = 0 then some 0 else none
  | f + 1, c => if c = 0 then some 0 else (lvA l f (parC l c)).map (· + 1)
def lvl (l : List Nod) (c : Int) : Nat := (lvA l l.length c).getD 0
/-- A code and those above it. -/
def upA (l : List Nod) : Nat → Int → List Int
  | 0, _ => []
  | f + 1, c => c :: upA l f (parC l c)
def upL (l : List Nod) (c : Int) : List Int := upA l (lvl l c) c
def par5 (l : List Nod) (i : Nat) : Int := if par0 l i ≠ 0 ∧ ix l (par0 l i) = none then 5 else 0
def cyc18 (l : List Nod) (i : Nat) : Int := if lvA l l.length (cod l i) = none then 18 else 0
def deep2 (l : List Nod) (i : Nat) : Int := if 8 < lvl l (cod l i) then 2 else 0
noncomputable def treeF (l : List Nod) : Int :=
  if nodesF l ≠ 0 then nodesF l
  else if scan (par5 l) l.length ≠ 0 then 5
  else if scan (cyc18 l) l.length ≠ 0 then 18
  else if scan (deep2 l) l.length ≠ 0 then 2 else 0

theorem ixTo_some {l : List Nod} {c : Int} {i : Nat} : ∀ {k}, ixTo l c k = some i → i < k ∧ cod l i = c
  | 0, h => by simp [ixTo] at h
  | k + 1, h => by
    unfold ixTo at h
    split at h
    · next e => cases h; exact ⟨by omega, e⟩
    · have := ixTo_some h; exact ⟨by omega, this.2⟩
theorem ixTo_none {l : List Nod} {c : Int} : ∀ {k}, ixTo l c k = none → ∀ i, i < k → cod l i ≠ c
  | 0, _, i, hi => by omega
  | k + 1, h, i, hi => by
    unfold ixTo at h
    split at h
    · cases h
    · next e =>
      by_cases hik : i = k
      · subst hik; exact e
      · exact ixTo_none h i (by omega)
theorem ixTo_of {l : List Nod} {c : Int} {i k : Nat} (hu : ∀ i j, i < k → j < k → cod l i = cod l j → i = j) (hi : i < k) (hc : cod l i = c) : ixTo l c k = some i := by
  cases h : ixTo l c k with
  | none => exact absurd hc (ixTo_none h i hi)
  | some j =>
    obtain ⟨h1, h2⟩ := ixTo_some h
    rw [hu i j hi h1 (hc.trans h2.symm)]

theorem lvA_zero (l : List Nod) (f : Nat) : lvA l f 0 = some 0 := by cases f <;> simp [lvA]
theorem lvA_mono {l : List Nod} : ∀ {f : Nat} {c : Int} {k : Nat}, lvA l f c = some k → ∀ f', k ≤ f' → lvA l f' c = some k
  | 0, c, k, h, f', hk => by
    unfold lvA at h
    split at h
    · next e => subst e; cases h; exact lvA_zero l f'
    · cases h
  | f + 1, c, k, h, f', hk => by
    unfold lvA at h
    split at h
    · next e => subst e; cases h; exact lvA_zero l f'
    · next e =>
      cases hp : lvA l f (parC l c) with
      | none => rw [hp] at h; cases h
      | some j =>
        rw [hp] at h
        have h2 : j + 1 = k := by simpa using h
        subst h2
        cases f' with
        | zero => omega
        | succ f' => rw [lvA, if_neg e, lvA_mono hp f' (by omega)]; rfl
theorem lvA_le {l : List Nod} : ∀ {f : Nat} {c : Int} {k : Nat}, lvA l f c = some k → k ≤ f
  | 0, c, k, h => by
    unfold lvA at h
    split at h
    · cases h; exact Nat.le_refl _
    · cases h
  | f + 1, c, k, h => by
    unfold lvA at h
    split at h
    · cases h; exact Nat.zero_le _
    · cases hp : lvA l f (parC l c) with
      | none => rw [hp] at h; cases h
      | some j =>
        have h1 := lvA_le hp
        rw [hp] at h
        have h2 : j + 1 = k := by simpa using h
        omega
theorem lvA_step {l : List Nod} {f : Nat} {c : Int} {k : Nat} (h : lvA l f c = some (k + 1)) : c ≠ 0 ∧ lvA l f (parC l c) = some k := by
  cases f with
  | zero => unfold lvA at h; split at h <;> cases h
  | succ f =>
    have h0 := h
    unfold lvA at h
    split at h
    · cases h
    · next e =>
      refine ⟨e, ?_⟩
      cases hp : lvA l f (parC l c) with
      | none => rw [hp] at h; cases h
      | some j =>
        rw [hp] at h
        have h2 : j = k := by simpa using h
        have h1 := lvA_le hp
        subst h2
        exact lvA_mono hp (f + 1) (by omega)
theorem lvA_pos {l : List Nod} {f : Nat} {c : Int} {k : Nat} (h : lvA l f c = some k) (hc : c ≠ 0) : ∃ j, k = j + 1 := by
  cases k with
  | zero =>
    exfalso
    cases f with
    | zero => unfold lvA at h; rw [if_neg hc] at h; cases h
    | succ f =>
      unfold lvA at h
      rw [if_neg hc] at h
      cases hp : lvA l f (parC l c) with
      | none => rw [hp] at h; cases h
      | some j => rw [hp] at h; cases h
  | succ j => exact ⟨j, rfl⟩

/-- A frame that is right. -/
structure FrOk (l : List Nod) (n : Nat) : Prop where
  len : l.length = n
  pos : 0 < n ∧ n ≤ 600
  rng : ∀ i, i < n → 1 ≤ cod l i ∧ cod l i ≤ 999
  inc : ∀ i, 0 < i → i < n → cod l (i - 1) < cod l i
  tit : ∀ i, i < n → (tit l i).size ≤ 60 ∧ titleB (tit l i) = true
/-- .. and its parents. -/
structure TrOk (l : List Nod) (n : Nat) : Prop extends FrOk l n where
  par : ∀ i, i < n → par0 l i ≠ 0 → (ix l (par0 l i)).isSome = true
  lev : ∀ i, i < n → ∃ k, lvA l n (cod l i) = some k ∧ k ≤ 8
theorem nodesF_zero {l : List Nod} (h : nodesF l = 0) : FrOk l l.length := by
  unfold nodesF at h
  split at h
  · cases h
  · next h0 =>
    split at h
    · cases h
    · next h6 =>
      have key : ∀ i, i < l.length → (1 ≤ cod l i ∧ cod l i ≤ 999) ∧ (0 < i → cod l (i - 1) < cod l i) ∧ (tit l i).size ≤ 60 ∧ titleB (tit l i) = true := by
        intro i hi
        have hz := scan_all _ h i hi
        unfold nodeBad at hz
        split at hz
        · cases hz
        · next a =>
          split at hz
          · cases hz
          · next b =>
            split at hz
            · cases hz
            · next c =>
              split at hz
              · cases hz
              · next d =>
                have a' : outB (cod l i) 1 999 = false := by
                  cases hh : outB (cod l i) 1 999
                  · rfl
                  · exact absurd hh a
                have d' : titleB (tit l i) = true := by
                  cases hh : titleB (tit l i)
                  · exact absurd hh d
                  · rfl
                refine ⟨outB_false.1 a', fun h1 => ?_, Nat.not_lt.1 c, d'⟩
                have := fun h2 => b ⟨h1, h2⟩
                exact Int.not_le.1 this
      exact ⟨rfl, by omega, fun i hi => (key i hi).1, fun i h1 h2 => (key i h2).2.1 h1, fun i hi => (key i hi).2.2⟩
theorem FrOk.lt {l : List Nod} {n : Nat} (h : FrOk l n) {i j : Nat} (hij : i < j) (hj : j < n) : cod l i < cod l j := by
  obtain ⟨d, rfl⟩ : ∃ d, j = i + 1 + d := ⟨j - (i + 1), by omega⟩
  induction d with
  | zero => have := h.inc (i + 1) (by omega) hj; simpa using this
  | succ d ih =>
    have h1 := ih (by omega) (by omega)
    have h2 := h.inc (i + 1 + (d + 1)) (by omega) hj
    have : i + 1 + (d + 1) - 1 = i + 1 + d := by omega
    rw [this] at h2
    omega
theorem FrOk.inj {l : List Nod} {n : Nat} (h : FrOk l n) (i j : Nat) (hi : i < n) (hj : j < n) (e : cod l i = cod l j) : i = j := by
  rcases Nat.lt_trichotomy i j with hl | hl | hl
  · have := h.lt hl hj; omega
  · exact hl
  · have := h.lt hl hi; omega
theorem FrOk.ix_of {l : List Nod} {n : Nat} (h : FrOk l n) {i : Nat} (hi : i < n) : ix l (cod l i) = some i := by
  unfold ix
  rw [h.len]
  exact ixTo_of (fun a b ha hb e => h.inj a b ha hb e) hi rfl
theorem FrOk.at_of {l : List Nod} {n : Nat} (h : FrOk l n) {i : Nat} (hi : i < n) : atV l (cod l i) = i := by rw [atV, h.ix_of hi]; rfl
theorem FrOk.ix_some {l : List Nod} {n : Nat} (h : FrOk l n) {c : Int} {i : Nat} (hx : ix l c = some i) : i < n ∧ cod l i = c := by
  unfold ix at hx
  rw [h.len] at hx
  exact ixTo_some hx
theorem TrOk.up {l : List Nod} {n : Nat} (h : TrOk l n) {c : Int} (hc : (ix l c).isSome = true) : ∃ i, i < n ∧ cod l i = c ∧ atV l c = i ∧ parC l c = par0 l i ∧ (parC l c = 0 ∨ (ix l (parC l c)).isSome = true) := by
  obtain ⟨i, hi⟩ := Option.isSome_iff_exists.1 hc
  obtain ⟨h1, h2⟩ := h.ix_some hi
  have h3 : atV l c = i := by rw [atV, hi]; rfl
  refine ⟨i, h1, h2, h3, by rw [parC, h3], ?_⟩
  by_cases hp : parC l c = 0
  · exact .inl hp
  · rw [parC, h3] at hp ⊢
    exact .inr (h.par i h1 hp)
theorem upA_length (l : List Nod) : ∀ (m : Nat) (c : Int), (upA l m c).length = m
  | 0, c => rfl
  | m + 1, c => by rw [upA, List.length_cons, upA_length l m]
end Go.Proofs.YtngogjookldidaaGreatDoor

namespace Go.Proofs.YtngogjookldidaaGreatDoor
open Go.RowKit
set_option linter.unusedVariables false
set_option linter.unusedSimpArgs false

def vI (x : Int) (v : Value) : Prop := v = .int .i64 x
theorem zeroI (w : World) : (zeroValue 3).run Tryz.prog w = .ok (.int .i64 0) w := by kernel_rfl
theorem look_ok {W : World} {r : Nat} {o : Obj} {M : List (Int × Int)} (ho : W.heap[r]? = some o) (hm : MapO vI o M) (k : Int) :
    (Instr.lookup 53 (.map (some r)) (.int .i64 k) true).run Tryz.prog W = .ok (.tuple #[.int .i64 ((mget M k).getD 0), .bool (mget M k).isSome]) W := by
  rcases run_lookup (P := Tryz.prog) (w := W) Tryz.underlying53 Tryz.underlying3 ho hm k true (zeroI W) with ⟨x, v, h1, h2, h3⟩ | ⟨h1, h3⟩
  · cases h2; rw [h1]; exact h3
  · rw [h1]; exact h3
theorem look_no {W : World} {r : Nat} {o : Obj} {M : List (Int × Int)} (ho : W.heap[r]? = some o) (hm : MapO vI o M) (k : Int) :
    (Instr.lookup 53 (.map (some r)) (.int .i64 k) false).run Tryz.prog W = .ok (.int .i64 ((mget M k).getD 0)) W := by
  rcases run_lookup (P := Tryz.prog) (w := W) Tryz.underlying53 Tryz.underlying3 ho hm k false (zeroI W) with ⟨x, v, h1, h2, h3⟩ | ⟨h1, h3⟩
  · cases h2; rw [h1]; exact h3
  · rw [h1]; exact h3

/-- A map of integers in memory, by what it answers. -/
def MapW (w : World) (r : Nat) (f : Int → Option Int) : Prop := ∃ o M, w.heap[r]? = some o ∧ MapO vI o M ∧ ∀ k, mget M k = f k
theorem MapW.lt {w : World} {r : Nat} {f : Int → Option Int} (h : MapW w r f) : r < w.heap.size := by obtain ⟨o, M, h1, _⟩ := h; exact (Array.getElem?_eq_some_iff.1 h1).1
theorem MapW.below {w w' : World} {r B : Nat} {f : Int → Option Int} (h : MapW w r f) (hb : Below B w w') (hr : r < B) : MapW w' r f := by
  obtain ⟨o, M, h1, h2⟩ := h; exact ⟨o, M, (hb.block r hr).trans h1, h2⟩
theorem MapW.callB {w w' : World} {r : Nat} {f : Int → Option Int} (h : MapW w r f) (hb : Below w.heap.size w w') : MapW w' r f := h.below hb h.lt
theorem MapW.drewN {w : World} {r : Nat} {f : Int → Option Int} (h : MapW w r f) (q : Nat) : MapW (w.drewN q) r f := h
theorem MapW.look_ok {w : World} {r : Nat} {f : Int → Option Int} (h : MapW w r f) (k : Int) :
    (Instr.lookup 53 (.map (some r)) (.int .i64 k) true).run Tryz.prog w = .ok (.tuple #[.int .i64 ((f k).getD 0), .bool (f k).isSome]) w := by
  obtain ⟨o, M, h1, h2, h3⟩ := h
  have := _root_.Go.Proofs.YtngogjookldidaaGreatDoor.look_ok (W := w) h1 h2 k
  rwa [h3] at this
theorem MapW.look_no {w : World} {r : Nat} {f : Int → Option Int} (h : MapW w r f) (k : Int) :
    (Instr.lookup 53 (.map (some r)) (.int .i64 k) false).run Tryz.prog w = .ok (.int .i64 ((f k).getD 0)) w := by
  obtain ⟨o, M, h1, h2, h3⟩ := h
  have := _root_.Go.Proofs.YtngogjookldidaaGreatDoor.look_no (W := w) h1 h2 k
  rwa [h3] at this
theorem MapW.put {w : World} {r : Nat} {f : Int → Option Int} (h : MapW w r f) (k x : Int) :
    ∃ o, (∀ q, (Instr.mapUpdate 53 (.map (some r)) (.int .i64 k) (.int .i64 x)).run Tryz.prog (w.drewN q) = .ok () (setMap (w.drewN q) r o)) ∧ (∀ W, W.heap[r]? = some o → MapW W r (fun k' => if k' = k then some x else f k')) := by
  obtain ⟨o, M, h1, h2, h3⟩ := h
  have key : ∀ q, _ := fun q => run_mapUpdate (P := Tryz.prog) (w := w.drewN q) Tryz.underlying53 Tryz.underlying3 h1 h2 k (x := x) (v := .int .i64 x) rfl
  exact ⟨_, fun q => (key q).1, fun W hW => ⟨_, _, hW, (key 0).2, fun k' => by rw [mget_mput, h3]⟩⟩

structure TreeW (w : World) (bt : Nat) (a : Option Addr) (c n m1 m2 : Nat) (f1 f2 : Int → Option Int) : Prop where
  blk : Blk w bt #[.slice a n c, .map (some m1), .map (some m2)] 121
  at_ : MapW w m1 f1
  lev : MapW w m2 f2
theorem TreeW.callB {w w' : World} {bt : Nat} {a : Option Addr} {c n m1 m2 : Nat} {f1 f2 : Int → Option Int} (h : TreeW w bt a c n m1 m2 f1 f2) (hb : Below w.heap.size w w') : TreeW w' bt a c n m1 m2 f1 f2 :=
  ⟨h.blk.callB hb, h.at_.callB hb, h.lev.callB hb⟩

theorem has_any {w : World} {bt : Nat} {a : Option Addr} {c n m1 m2 : Nat} {f1 f2 : Int → Option Int} (h : TreeW w bt a c n m1 m2 f1 f2) (k : Int) :
    Calls Tryz.prog 75 #[.pointer (some ⟨bt, 0, none⟩), .int .i64 k] w fun e w' => e = .returned (.bool (f1 k).isSome) ∧ w = w' := by
  have e1 := h.blk.cell 1
  simp at e1
  have hl := h.at_.look_ok k
  obtain ⟨v, hv⟩ : ∃ v, Hid (f1 k = v) := ⟨_, Lib.hid rfl⟩
  rw [hv.out] at hl ⊢
  go_enter Tryz.func75, Tryz.ntmps75
  go_wp2
  go_ret
  exact ⟨rfl, rfl⟩
theorem has_b {w : World} {bt : Nat} {a : Option Addr} {c n m1 m2 : Nat} {f1 f2 : Int → Option Int} (h : TreeW w bt a c n m1 m2 f1 f2) (k : Int) {b : Bool} (hk : (f1 k).isSome = b) :
    Calls Tryz.prog 75 #[.pointer (some ⟨bt, 0, none⟩), .int .i64 k] w fun e w' => e = .returned (.bool b) ∧ w = w' := by rw [← hk]; exact has_any h k
theorem has_q {w : World} {bt : Nat} {a : Option Addr} {c n m1 m2 : Nat} {f1 f2 : Int → Option Int} (h : TreeW w bt a c n m1 m2 f1 f2) (k : Int) {b : Bool} (hk : (f1 k).isSome = b) :
    Calls Tryz.prog 75 #[.pointer (some ⟨bt, 0, none⟩), .int .i64 k] w fun e w' => e = .returned (.bool b) ∧ w' = w := (has_b h k hk).mono fun _ _ h => ⟨h.1, h.2.symm⟩
end Go.Proofs.YtngogjookldidaaGreatDoor

namespace Go.Proofs.YtngogjookldidaaGreatDoor
open Go.RowKit
set_option linter.unusedVariables false
set_option linter.unusedSimpArgs false

def OwnPost (w0 : World) (φ0 : Phi) (E : TypeId) (xs : List Int) (e : Ending) (w' : World) : Prop :=
  ∃ a cap φ', e = .returned (.slice a xs.length cap) ∧ Inv w0.heap.size w0 φ0 φ' w' ∧ Own w0.heap.size φ' w' E a cap xs
/-- What 'at' answers for a frame. -/
def atF (l : List Nod) (c : Int) : Option Int := (ix l c).map (fun i : Nat => (i : Int))
theorem atF_isSome (l : List Nod) (k : Int) : (atF l k).isSome = (ix l k).isSome := by unfold atF; simp

theorem lvl_of {l : List Nod} {c : Int} {m : Nat} (h : lvA l l.length c = some m) : lvl l c = m := by rw [lvl, h]; rfl
theorem atF_some {l : List Nod} {c : Int} {i : Nat} (h : ix l c = some i) : atF l c = some (i : Int) := by rw [atF, h]; rfl
theorem TrOk.lv {l : List Nod} {n : Nat} (h : TrOk l n) {c : Int} (hc : c = 0 ∨ (ix l c).isSome = true) : ∃ m, lvA l n c = some m ∧ m ≤ 8 := by
  rcases hc with rfl | hc
  · exact ⟨0, lvA_zero _ _, by omega⟩
  · obtain ⟨i, hi, he, _⟩ := h.up hc
    rw [← he]; exact h.lev i hi

set_option maxHeartbeats 400000 in
theorem up_any {w : World} {bt : Nat} {a : Option Addr} {c n m1 m2 : Nat} {f2 : Int → Option Int} {l : List Nod} {φ : Phi} (hφ : Fz φ w) (s : SlV φ a c l) (ht : TreeW w bt a c n m1 m2 (atF l) f2) (hok : Hid (TrOk l n)) (k : Int) (hk : k = 0 ∨ (ix l k).isSome = true) :
    Calls Tryz.prog 113 #[.pointer (some ⟨bt, 0, none⟩), .int .i64 k] w (OwnPost w φ 3 (upL l k)) := by
  have hn : Hid (l.length = n) := Lib.hid hok.out.len
  have hk := Lib.hid hk
  have HT := Lib.hid ht
  clear ht
  go_enter Tryz.func113, Tryz.ntmps113
  go_wp2
  go_loopw [1, 5] (fun cv o wr => ∃ (cur : Int) (pre : List Int) (m : Nat) (a' : Option Addr) (cap' : Nat), cv = .int .i64 cur ∧ o = .slice a' pre.length cap' ∧ Hid (cur = 0 ∨ (ix l cur).isSome = true) ∧ Hid (lvA l n cur = some m) ∧ Hid (upL l k = pre ++ upA l m cur) ∧ pre.length + m ≤ 8 ∧ Inv w.heap.size w φ φ wr ∧ Own w.heap.size φ wr 3 a' cap' pre) (fun cv _ _ => lvl l (intOf cv))
  case atStart =>
    obtain ⟨m, hm, hm8⟩ := hok.out.lv hk.out
    exact ⟨k, [], m, none, 0, rfl, rfl, hk, Lib.hid hm, Lib.hid (by rw [upL, lvl_of (by rw [hn.out]; exact hm)]; rfl), by simpa using hm8, Inv.start hφ, Own.nil _ _ _ _⟩
  case round =>
    obtain ⟨cur, pre, m, a', cap', rfl, rfl, hcur, hm, hup, hlen, hi, hown⟩ := hrel
    have HT2 := Lib.hid (HT.out.callB hi.bel)
    have e0 := HT2.out.blk.cell 0
    have e1 := HT2.out.blk.cell 1
    simp at e0 e1
    by_cases h0 : cur = 0
    · have hz : ((cur : Int) != 0) = false := by simp [h0]
      have hup2 : Hid (upL l k = pre) := Lib.hid (by
        have : m = 0 := by have := hm.out; rw [h0, lvA_zero] at this; cases this; rfl
        rw [hup.out, this]; simp [upA])
      clear h0
      go_wp2
      go_ret
      rw [hup2.out]
      exact ⟨a', cap', φ, rfl, hi, hown⟩
    · have hz : ((cur : Int) != 0) = true := by simp [h0]
      have H0 := Lib.hid h0
      clear h0
      obtain ⟨i, hi1, hi2, hi3, hi4, hi5⟩ := hok.out.up (hcur.out.resolve_left H0.out)
      obtain ⟨m', rfl⟩ := lvA_pos hm.out H0.out
      have hm' := Lib.hid (lvA_step hm.out).2
      have hix : Hid (atF l cur = some (i : Int)) := Lib.hid (by
        have := hok.out.ix_of hi1
        rw [hi2] at this
        exact atF_some this)
      replace hi4 := Lib.hid hi4
      replace hi5 := Lib.hid hi5
      clear hi2 hi3
      obtain ⟨b, off, rfl, f⟩ := s.nodesD hn hi1
      have hin : (i : Int) < n := by omega
      have c2 : Hid (∀ W, Fz φ W → W.cell? ⟨b, off + i * 3 + 1, none⟩ = some (.int .i64 (parC l cur))) := Lib.hid (fun W hW => by rw [hi4.out]; exact (f i hi1 W hW).2.2.1)
      clear f
      have hlv : Hid (lvl l cur = m' + 1) := Lib.hid (lvl_of (by rw [hn.out]; exact hm.out))
      have hlv2 : Hid (lvl l (parC l cur) = m') := Lib.hid (lvl_of (by rw [hn.out]; exact hm'.out))
      have hup2 : Hid (upL l k = (pre ++ [cur]) ++ upA l m' (parC l cur)) := Lib.hid (by rw [hup.out, upA]; simp)
      generalize parC l cur = p at *
      go_wp2_with (at_builtin; refine wpList_app1 (α := Int) rfl _ _ 56 rfl slI hi a' cap' _ hown _ _ cur rfl rfl 1 rfl (by omega) ?_; intro a2 cap2 w2 hi2 hown2 hgr)
      clear e0 e1
      have HT3 := Lib.hid (HT.out.callB hi2.bel)
      have e0 := HT3.out.blk.cell 0
      have e1 := HT3.out.blk.cell 1
      simp at e0 e1
      have hl : ∀ q, (Instr.lookup 53 (.map (some m1)) (.int .i64 cur) false).run Tryz.prog (w2.drewN q) = .ok (.int .i64 (i : Int)) (w2.drewN q) := fun q => by
        have := (HT3.out.at_.drewN q).look_no cur
        rw [hix.out] at this
        exact this
      have c1 := c2.out w2 hi2.fz
      have H2 := Lib.hid hi2
      have O2 := Lib.hid hown2
      clear hi2 hown2 hi hown hgr
      go_quiet (fail)
      go_wp2
      go_roundw
      case rel => exact ⟨p, pre ++ [cur], m', a2, cap2, rfl, by simp, hi5, hm', hup2, by simp; omega, H2.out.drewN _, O2.out.drewN _⟩
      case measure => show lvl l p < lvl l cur; rw [hlv.out, hlv2.out]; omega
end Go.Proofs.YtngogjookldidaaGreatDoor

namespace Go.Proofs.YtngogjookldidaaGreatDoor
open Go.RowKit
set_option linter.unusedVariables false
set_option linter.unusedSimpArgs false

structure ParOk (l : List Nod) (n : Nat) : Prop extends FrOk l n where
  par : ∀ i, i < n → par0 l i ≠ 0 → (ix l (par0 l i)).isSome = true
theorem ParOk.up {l : List Nod} {n : Nat} (h : ParOk l n) {c : Int} (hc : (ix l c).isSome = true) : ∃ i, i < n ∧ cod l i = c ∧ atV l c = i ∧ parC l c = par0 l i ∧ (parC l c = 0 ∨ (ix l (parC l c)).isSome = true) := by
  obtain ⟨i, hi⟩ := Option.isSome_iff_exists.1 hc
  obtain ⟨h1, h2⟩ := h.ix_some hi
  have h3 : atV l c = i := by rw [atV, hi]; rfl
  refine ⟨i, h1, h2, h3, by rw [parC, h3], ?_⟩
  by_cases hp : parC l c = 0
  · exact .inl hp
  · rw [parC, h3] at hp ⊢
    exact .inr (h.par i h1 hp)
def updF (f : Int → Option Int) (k x : Int) : Int → Option Int := fun k' => if k' = k then some x else f k'
def MeasPost (l : List Nod) (n : Nat) (k : Int) (m2 : Nat) (f2 : Int → Option Int) (w : World) (e : Ending) (w' : World) : Prop :=
  (∃ m : Nat, lvA l n k = some m ∧ e = .returned (.bool true) ∧ w.grownBy w' (some m2) ∧ MapW w' m2 (updF f2 k m)) ∨ (lvA l n k = none ∧ e = .returned (.bool false) ∧ ∃ q, w' = w.drewN q)
theorem lvA_next {l : List Nod} {n j : Nat} {k cur : Int} (h : lvA l n k = (lvA l (n - j) cur).map (· + j)) (h0 : cur ≠ 0) (hj : j + 1 ≤ n) : lvA l n k = (lvA l (n - (j + 1)) (parC l cur)).map (· + (j + 1)) := by
  obtain ⟨d, hd⟩ : ∃ d, n - j = d + 1 := ⟨n - j - 1, by omega⟩
  rw [h, hd, lvA, if_neg h0, show n - (j + 1) = d by omega, Option.map_map]
  congr 1
  funext x
  simp; omega
theorem lvA_stop {l : List Nod} {n j : Nat} {k cur : Int} (h : lvA l n k = (lvA l (n - j) cur).map (· + j)) (h0 : cur ≠ 0) (hj : ¬ j + 1 ≤ n) : lvA l n k = none := by
  rw [h, show n - j = 0 by omega, lvA, if_neg h0]; rfl
theorem grown_drewN (w w' : World) (q : Nat) (r : Option Nat) (h : (w.drewN q).grownBy w' r) : w.grownBy w' r := ⟨h.os, h.tape, h.output, h.size, h.block⟩

set_option maxHeartbeats 400000 in
theorem measure_any {w : World} {bt : Nat} {a : Option Addr} {c n m1 m2 : Nat} {f2 : Int → Option Int} {l : List Nod} {φ : Phi} (hφ : Fz φ w) (s : SlV φ a c l) (ht : TreeW w bt a c n m1 m2 (atF l) f2) (hok : Hid (ParOk l n)) (k : Int) (hk : k = 0 ∨ (ix l k).isSome = true) :
    Calls Tryz.prog 74 #[.pointer (some ⟨bt, 0, none⟩), .int .i64 k] w (MeasPost l n k m2 f2 w) := by
  have hn : Hid (l.length = n) := Lib.hid hok.out.len
  have hn6 : n ≤ 600 := hok.out.pos.2
  have hk := Lib.hid hk
  have HT := Lib.hid ht
  have e0 := ht.blk.cell 0
  have e1 := ht.blk.cell 1
  have e2 := ht.blk.cell 2
  simp at e0 e1 e2
  clear ht
  go_enter Tryz.func74, Tryz.ntmps74
  go_wp2
  go_loopw [5, 6] (fun sv cv wr => ∃ (cur : Int) (j : Nat), sv = .int .i64 (j : Int) ∧ cv = .int .i64 cur ∧ Hid (cur = 0 ∨ (ix l cur).isSome = true) ∧ Hid (lvA l n k = (lvA l (n - j) cur).map (· + j)) ∧ j ≤ n ∧ ∃ q, wr = w.drewN q) (fun sv _ _ => n + 1 - (intOf sv).toNat)
  case atStart =>
    refine ⟨k, 0, rfl, rfl, hk, Lib.hid ?_, by omega, 0, rfl⟩
    simp
  case round =>
    obtain ⟨cur, j, rfl, rfl, hcur, hlv, hj, q, rfl⟩ := hrel
    by_cases h0 : cur = 0
    · have hz : ((cur : Int) != 0) = false := by simp [h0]
      have hm : lvA l n k = some j := by rw [hlv.out, h0, lvA_zero]; simp
      clear h0 hcur hlv
      obtain ⟨o, hp, hw⟩ := HT.out.lev.put k (j : Int)
      have hlt := Lib.hid HT.out.lev.lt
      go_wp2
      go_ret
      have hsz : m2 < (w.drewN q).heap.size := hlt.out
      exact .inl ⟨j, hm, rfl, grown_drewN _ _ q _ (setMap_grown _ m2 o), hw _ (setMap_same o hsz)⟩
    · have hz : ((cur : Int) != 0) = true := by simp [h0]
      have H0 := Lib.hid h0
      clear h0
      obtain ⟨i, hi1, hi2, hi3, hi4, hi5⟩ := hok.out.up (hcur.out.resolve_left H0.out)
      have hix : Hid (atF l cur = some (i : Int)) := Lib.hid (by
        have := hok.out.ix_of hi1
        rw [hi2] at this
        exact atF_some this)
      replace hi4 := Lib.hid hi4
      replace hi5 := Lib.hid hi5
      clear hi2 hi3
      obtain ⟨b, off, rfl, f⟩ := s.nodesD hn hi1
      have hin : (i : Int) < n := by omega
      have c2 : Hid (∀ W, Fz φ W → W.cell? ⟨b, off + i * 3 + 1, none⟩ = some (.int .i64 (parC l cur))) := Lib.hid (fun W hW => by rw [hi4.out]; exact (f i hi1 W hW).2.2.1)
      clear f
      have hnx := Lib.hid (fun hj => lvA_next hlv.out H0.out hj)
      have hst := Lib.hid (fun hj => lvA_stop hlv.out H0.out hj)
      clear hlv
      generalize parC l cur = p at *
      have c1 := c2.out w hφ
      have hl : ∀ q, (Instr.lookup 53 (.map (some m1)) (.int .i64 cur) false).run Tryz.prog (w.drewN q) = .ok (.int .i64 (i : Int)) (w.drewN q) := fun q => by
        have := (HT.out.at_.drewN q).look_no cur
        rw [hix.out] at this
        exact this
      have hw1 : IntKind.i64.wrap ((j : Int) + 1) = ((j + 1 : Nat) : Int) := by rw [IntWalk.i64_in _ (by omega)]; omega
      by_cases hb : j + 1 ≤ n
      · have hg : decide (((j + 1 : Nat) : Int) > (n : Int)) = false := by simp; omega
        go_wp2
        go_quiet (fail)
        go_wp2
        go_roundw
        case rel => exact ⟨p, j + 1, rfl, rfl, hi5, Lib.hid (hnx.out hb), hb, _, World.drewN_drewN ..⟩
        case measure => show n + 1 - ((j : Int) + 1).toNat < n + 1 - ((j : Int)).toNat; omega
      · have hg : decide (((j + 1 : Nat) : Int) > (n : Int)) = true := by simp; omega
        go_wp2
        go_ret
        exact .inr ⟨hst.out hb, rfl, _, rfl⟩
end Go.Proofs.YtngogjookldidaaGreatDoor

namespace Go.Proofs.YtngogjookldidaaGreatDoor
open Go.RowKit
set_option linter.unusedVariables false
set_option linter.unusedSimpArgs false

def atK (l : List Nod) (k : Nat) : Int → Option Int := fun c => (ixTo l c k).map (fun i : Nat => (i : Int))
def lvK (l : List Nod) (k : Nat) : Int → Option Int := fun c => if c = 0 then some 0 else if (ixTo l c k).isSome = true then (lvA l l.length c).map (fun i : Nat => (i : Int)) else none
def lvF (l : List Nod) : Int → Option Int := lvK l l.length
theorem atK_zero (l : List Nod) : atK l 0 = fun _ => none := rfl
theorem atK_step (l : List Nod) (k : Nat) (hf : ixTo l (cod l k) k = none) : updF (atK l k) (cod l k) k = atK l (k + 1) := by
  funext c
  unfold updF atK
  by_cases h : c = cod l k
  · subst h; rw [if_pos rfl, ixTo, if_pos rfl]; rfl
  · rw [if_neg h, ixTo, if_neg (fun e => h e.symm)]
theorem lvK_zero (l : List Nod) : lvK l 0 = updF (fun _ => none) 0 0 := by
  funext c; unfold lvK updF; simp [ixTo]
theorem lvK_step (l : List Nod) (k : Nat) (h0 : cod l k ≠ 0) {m : Nat} (hm : lvA l l.length (cod l k) = some m) : updF (lvK l k) (cod l k) m = lvK l (k + 1) := by
  funext c
  unfold updF lvK
  by_cases h : c = cod l k
  · subst h; rw [if_pos rfl, if_neg h0, ixTo, if_pos rfl, hm]; simp
  · rw [if_neg h, ixTo, if_neg (fun e : cod l k = c => h e.symm)]
theorem lvF_of {l : List Nod} {n : Nat} (h : FrOk l n) {i m : Nat} (hi : i < n) (hm : lvA l n (cod l i) = some m) : lvF l (cod l i) = some (m : Int) := by
  have h0 := (h.rng i hi).1
  have hx := h.ix_of hi
  unfold ix at hx
  unfold lvF lvK
  rw [if_neg (by omega), hx, h.len, hm]; rfl

structure TSt (w0 : World) (bt : Nat) (a : Option Addr) (c n m1 m2 : Nat) (f1 f2 : Int → Option Int) (wr : World) : Prop where
  bel : Below w0.heap.size w0 wr
  tree : TreeW wr bt a c n m1 m2 f1 f2
  lo : w0.heap.size ≤ m1 ∧ w0.heap.size ≤ m2
  ne : bt ≠ m1 ∧ bt ≠ m2 ∧ m1 ≠ m2
section
variable {w0 wr w' : World} {bt : Nat} {a : Option Addr} {c n m1 m2 : Nat} {f1 f2 g : Int → Option Int}
theorem TSt.callB (h : Hid (TSt w0 bt a c n m1 m2 f1 f2 wr)) (hb : Below wr.heap.size wr w') : Hid (TSt w0 bt a c n m1 m2 f1 f2 w') :=
  Lib.hid ⟨h.out.bel.trans (hb.mono h.out.bel.size), h.out.tree.callB hb, h.out.lo, h.out.ne⟩
theorem TSt.alloc (h : Hid (TSt w0 bt a c n m1 m2 f1 f2 wr)) (o : Obj) : Hid (TSt w0 bt a c n m1 m2 f1 f2 (wr.alloc o)) := TSt.callB h ((Below.refl _ _).alloc (Nat.le_refl _) o)
theorem TSt.drewN (h : Hid (TSt w0 bt a c n m1 m2 f1 f2 wr)) (q : Nat) : Hid (TSt w0 bt a c n m1 m2 f1 f2 (wr.drewN q)) := TSt.callB h (bdrewN (Below.refl _ _) q)
theorem MapW.grown {r r' : Nat} (h : MapW wr r g) (hg : wr.grownBy w' (some r')) (hne : r ≠ r') : MapW w' r g := by
  obtain ⟨o, M, h1, h2⟩ := id h
  exact ⟨o, M, (hg.block r h.lt (fun e => hne (by cases e; rfl))).trans h1, h2⟩
theorem Blk.grown {g r' : Nat} {cs : Array Value} {T : TypeId} (h : Blk wr g cs T) (hg : wr.grownBy w' (some r')) (hne : g ≠ r') : Blk w' g cs T :=
  (hg.block g h.lt (fun e => hne (by cases e; rfl))).trans h
theorem Below_grown {r : Nat} (h : Below w0.heap.size w0 wr) (hg : wr.grownBy w' (some r)) (hr : w0.heap.size ≤ r) : Below w0.heap.size w0 w' :=
  ⟨hg.os.trans h.os, hg.tape.trans h.tape, hg.output.trans h.output, Nat.le_trans h.size hg.size, fun k hk => (hg.block k (Nat.lt_of_lt_of_le hk h.size) (fun e => by cases e; omega)).trans (h.block k hk)⟩
theorem TSt.put1 (h : Hid (TSt w0 bt a c n m1 m2 f1 f2 wr)) (hg : wr.grownBy w' (some m1)) (hm : MapW w' m1 g) : Hid (TSt w0 bt a c n m1 m2 g f2 w') :=
  Lib.hid ⟨Below_grown h.out.bel hg h.out.lo.1, ⟨Blk.grown h.out.tree.blk hg h.out.ne.1, hm, h.out.tree.lev.grown hg h.out.ne.2.2.symm⟩, h.out.lo, h.out.ne⟩
theorem TSt.put2 (h : Hid (TSt w0 bt a c n m1 m2 f1 f2 wr)) (hg : wr.grownBy w' (some m2)) (hm : MapW w' m2 g) : Hid (TSt w0 bt a c n m1 m2 f1 g w') :=
  Lib.hid ⟨Below_grown h.out.bel hg h.out.lo.2, ⟨Blk.grown h.out.tree.blk hg h.out.ne.2.1, h.out.tree.at_.grown hg h.out.ne.2.2, hm⟩, h.out.lo, h.out.ne⟩
end

theorem treeF_5 {l : List Nod} {n k : Nat} (h0 : nodesF l = 0) (hn : l.length = n) (hz : ∀ i, i < k → par5 l i = 0) (hk : k < n) (hf : par5 l k = 5) : treeF l = 5 := by
  rw [treeF, if_neg (by simp [h0]), hn, if_pos (by rw [scan_stop hz hk (by rw [hf]; decide), hf]; decide)]
theorem treeF_18 {l : List Nod} {n k : Nat} (h0 : nodesF l = 0) (hn : l.length = n) (h5 : ∀ i, i < n → par5 l i = 0) (hz : ∀ i, i < k → cyc18 l i = 0) (hk : k < n) (hf : cyc18 l k = 18) : treeF l = 18 := by
  rw [treeF, if_neg (by simp [h0]), hn, if_neg (by simp [scan_zero _ _ h5]), if_pos (by rw [scan_stop hz hk (by rw [hf]; decide), hf]; decide)]
theorem treeF_2 {l : List Nod} {n k : Nat} (h0 : nodesF l = 0) (hn : l.length = n) (h5 : ∀ i, i < n → par5 l i = 0) (h18 : ∀ i, i < n → cyc18 l i = 0) (hz : ∀ i, i < k → deep2 l i = 0) (hk : k < n) (hf : deep2 l k = 2) : treeF l = 2 := by
  rw [treeF, if_neg (by simp [h0]), hn, if_neg (by simp [scan_zero _ _ h5]), if_neg (by simp [scan_zero _ _ h18]), if_pos (by rw [scan_stop hz hk (by rw [hf]; decide), hf]; decide)]
theorem treeF_0 {l : List Nod} {n : Nat} (h0 : nodesF l = 0) (hn : l.length = n) (h5 : ∀ i, i < n → par5 l i = 0) (h18 : ∀ i, i < n → cyc18 l i = 0) (hz : ∀ i, i < n → deep2 l i = 0) : treeF l = 0 := by
  rw [treeF, if_neg (by simp [h0]), hn, if_neg (by simp [scan_zero _ _ h5]), if_neg (by simp [scan_zero _ _ h18]), if_neg (by simp [scan_zero _ _ hz])]
theorem par_of {l : List Nod} {n : Nat} (h : FrOk l n) (h5 : ∀ i, i < n → par5 l i = 0) : ParOk l n :=
  ⟨h, fun i hi hp => by
    have := h5 i hi
    unfold par5 at this
    cases hx : ix l (par0 l i) with
    | none => rw [if_pos ⟨hp, hx⟩] at this; cases this
    | some j => rfl⟩
theorem cyc_of {l : List Nod} {n i : Nat} (hn : l.length = n) (h : cyc18 l i = 0) : ∃ m, lvA l n (cod l i) = some m := by
  unfold cyc18 at h
  rw [hn] at h
  cases hx : lvA l n (cod l i) with
  | none => rw [if_pos hx] at h; cases h
  | some m => exact ⟨m, rfl⟩
theorem tr_of {l : List Nod} {n : Nat} (h : ParOk l n) (h18 : ∀ i, i < n → cyc18 l i = 0) (h2 : ∀ i, i < n → deep2 l i = 0) : TrOk l n :=
  ⟨h.toFrOk, h.par, fun i hi => by
    obtain ⟨m, hm⟩ := cyc_of h.len (h18 i hi)
    refine ⟨m, hm, ?_⟩
    have := h2 i hi
    unfold deep2 at this
    rw [lvl_of (by rw [h.len]; exact hm)] at this
    by_cases h8 : 8 < m
    · rw [if_pos h8] at this; cases this
    · omega⟩

def TreePost (l : List Nod) (n : Nat) (a : Option Addr) (c : Nat) (w : World) (e : Ending) (w' : World) : Prop :=
  Below w.heap.size w w' ∧ ((treeF l ≠ 0 ∧ e = .returned (.tuple #[.pointer none, .int .i64 (treeF l)])) ∨ (treeF l = 0 ∧ TrOk l n ∧ ∃ bt m1 m2, e = .returned (.tuple #[.pointer (some ⟨bt, 0, none⟩), .int .i64 0]) ∧ TreeW w' bt a c n m1 m2 (atF l) (lvF l)))

set_option maxRecDepth 100000 in
set_option maxHeartbeats 1000000 in
theorem treeOf_any {w : World} {a : Option Addr} {c n : Nat} {l : List Nod} {φ : Phi} (hφ : Fz φ w) (s : SlV φ a c l) (hn : Hid (l.length = n)) (hm : n ≤ 9223372036854775807) :
    Calls Tryz.prog 49 #[.slice a n c] w (TreePost l n a c w) := by
  obtain ⟨q, hq⟩ : ∃ q, Hid (nodesF l = q) := ⟨_, Lib.hid rfl⟩
  have hmm := @run_makeMap Tryz.prog
  by_cases h0 : q = 0
  · subst h0
    have hok : FrOk l n := by have := nodesF_zero hq.out; rwa [hn.out] at this
    go_enter Tryz.func49, Tryz.ntmps49
    go_wp2_with fail
    refine (nodesFault_any n a c l w φ hφ s hn hm).mono ?_
    rintro e w1 ⟨rfl, hb⟩
    rw [hq.out]
    have HOK := Lib.hid hok
    have hT : Hid (∃ o1, (Instr.mapUpdate 53 (.map (some (w1.heap.size + 1))) (.int .i64 0) (.int .i64 0)).run Tryz.prog ((w1.alloc (.map #[] 0)).alloc (.map #[] 0)) = .ok () (setMap ((w1.alloc (.map #[] 0)).alloc (.map #[] 0)) (w1.heap.size + 1) o1) ∧
        TSt w (w1.heap.size + 2) a c n w1.heap.size (w1.heap.size + 1) (atK l 0) (lvK l 0) ((setMap ((w1.alloc (.map #[] 0)).alloc (.map #[] 0)) (w1.heap.size + 1) o1).alloc (.cells #[.slice a n c, .map (some w1.heap.size), .map (some (w1.heap.size + 1))] 121))) := by
      have hw2 : ((w1.alloc (.map #[] 0)).alloc (.map #[] 0)).heap.size = w1.heap.size + 2 := by simp
      have h1' : MapW (w1.alloc (.map #[] 0)) w1.heap.size (fun _ => none) := ⟨_, [], heap_alloc_new w1 _, MapO.empty, fun _ => rfl⟩
      have h1 := h1'.callB ((Below.refl _ _).alloc (Nat.le_refl _) (.map #[] 0))
      have h2 : MapW ((w1.alloc (.map #[] 0)).alloc (.map #[] 0)) (w1.heap.size + 1) (fun _ => none) := ⟨_, [], by
        rw [show w1.heap.size + 1 = (w1.alloc (.map #[] 0)).heap.size by simp]
        exact heap_alloc_new _ _, MapO.empty, fun _ => rfl⟩
      obtain ⟨o, hp, hw⟩ := h2.put 0 0
      have hb2 : Below w.heap.size w ((w1.alloc (.map #[] 0)).alloc (.map #[] 0)) := (hb.alloc hb.size _).alloc (by have := hb.size; simp; omega) _
      have hg := setMap_grown ((w1.alloc (.map #[] 0)).alloc (.map #[] 0)) (w1.heap.size + 1) o
      have hs := setMap_size ((w1.alloc (.map #[] 0)).alloc (.map #[] 0)) (w1.heap.size + 1) o
      have hm2 := hw _ (setMap_same o (by rw [hw2]; omega))
      have hm1 := h1.grown hg (by omega)
      have hb3 := Below_grown hb2 hg (by have := hb.size; omega)
      have hbl := Blk.new (setMap ((w1.alloc (.map #[] 0)).alloc (.map #[] 0)) (w1.heap.size + 1) o) #[.slice a n c, .map (some w1.heap.size), .map (some (w1.heap.size + 1))] 121
      rw [hs, hw2] at hbl
      refine Lib.hid ⟨o, hp 0, hb3.alloc (by rw [hs, hw2]; have := hb.size; omega) _, ⟨hbl, hm1.callB ((Below.refl _ _).alloc (Nat.le_refl _) _), ?_⟩, ⟨hb.size, by have := hb.size; omega⟩, by omega, by omega, by omega⟩
      rw [lvK_zero]
      exact hm2.callB ((Below.refl _ _).alloc (Nat.le_refl _) _)
    have HB := Lib.hid hb
    clear hb hok
    obtain ⟨o1, hput, hT⟩ := hT.out
    replace hT := Lib.hid hT
    have hss : (setMap ((w1.alloc (.map #[] 0)).alloc (.map #[] 0)) (w1.heap.size + 1) o1).heap.size = w1.heap.size + 2 := by simp [setMap_size]
    go_wp2
    clear hput hss hmm
    generalize (setMap ((w1.alloc (.map #[] 0)).alloc (.map #[] 0)) (w1.heap.size + 1) o1).alloc (.cells #[.slice a n c, .map (some w1.heap.size), .map (some (w1.heap.size + 1))] 121) = wg at *
    generalize w1.heap.size + 2 = bt at *
    generalize w1.heap.size + 1 = m2 at *
    generalize w1.heap.size = m1 at *
    clear HB
    have hok0 : Hid (l.length = n) := Lib.hid HOK.out.len
    go_loopw [29] (fun i wr => ∃ k : Nat, k ≤ n ∧ i = .int .i64 k ∧ Hid (TSt w bt a c n m1 m2 (atK l k) (lvK l 0) wr)) (fun i _ => n - (intOf i).toNat)
    case atStart => exact ⟨0, Nat.zero_le _, rfl, hT⟩
    case round =>
      clear hT
      obtain ⟨k, hk, rfl, hT⟩ := hrel
      by_cases hlt : k < n
      · obtain ⟨b, off, rfl, f⟩ := s.nodesD hn hlt
        have hf := hφ.below hT.out.bel
        obtain ⟨hb, c1, c2, c3⟩ := f k hlt _ hf
        have hfr : Hid (ixTo l (cod l k) k = none) := Lib.hid (by
          cases hx : ixTo l (cod l k) k with
          | none => rfl
          | some j => have := ixTo_some hx; exact absurd (HOK.out.inj j k (by omega) hlt this.2) (by omega))
        have hst : Hid (updF (atK l k) (l.getD k nod0).1 k = atK l (k + 1)) := Lib.hid (atK_step l k hfr.out)
        clear f hf hfr
        generalize (l.getD k nod0).1 = m at *
        generalize (l.getD k nod0).2.1 = pa at *
        generalize (l.getD k nod0).2.2 = ti at *
        have hT2 := TSt.alloc hT (.cells #[.int .i64 m, .int .i64 pa, .string ti] 51)
        have e1 : (wr.alloc (.cells #[.int .i64 m, .int .i64 pa, .string ti] 51)).cell? ⟨bt, 1, none⟩ = some (.map (some m1)) := hT2.out.tree.blk.cell 1
        have b0 : (wr.alloc (.cells #[.int .i64 m, .int .i64 pa, .string ti] 51)).cell? ⟨wr.heap.size, 0, none⟩ = some (.int .i64 m) := box_at 0
        have E1 := Lib.hid (And.intro e1 b0)
        clear e1 b0
        have hlt1 := Lib.hid hT2.out.tree.at_.lt
        obtain ⟨o, hp, hw⟩ := hT2.out.tree.at_.put m (k : Int)
        have HW := Lib.hid hw
        clear hw
        go_wp2
        obtain ⟨e1, b0⟩ := E1.out
        generalize wr.alloc (.cells #[.int .i64 m, .int .i64 pa, .string ti] 51) = wx at *
        have hp1 : (Instr.mapUpdate 53 (.map (some m1)) (.int .i64 m) (.int .i64 (k : Int))).run Tryz.prog wx.drew = .ok () (setMap wx.drew m1 o) := hp 1
        go_still_tail 7, (by kernel_rfl)
        go_wp2
        go_roundw
        case rel =>
          refine ⟨k + 1, by omega, by go_num, ?_⟩
          have hd := TSt.drewN hT2 1
          rw [← hst.out]
          exact TSt.put1 hd (setMap_grown _ m1 o) (HW.out _ (setMap_same o hlt1.out))
        case measure => simp [intOf]; omega
      · obtain rfl : k = n := by omega
        clear hlt hk
        rename Nat => n
        go_wp2
        have hAt : atK l n = atF l := by rw [← HOK.out.len]; rfl
        rw [hAt] at hT
        clear hAt
        go_loopw [44] (fun i wr => ∃ k : Nat, k ≤ n ∧ i = .int .i64 k ∧ Hid (∀ i, i < k → par5 l i = 0) ∧ Hid (TSt w bt a c n m1 m2 (atF l) (lvK l 0) wr)) (fun i _ => n - (intOf i).toNat)
        case atStart => exact ⟨0, Nat.zero_le _, rfl, none_yet _, hT⟩
        case round =>
          clear hT
          obtain ⟨k, hk, rfl, hpz, hT⟩ := hrel
          by_cases hlt : k < n
          · obtain ⟨b, off, rfl, f⟩ := s.nodesD hn hlt
            have hf := hφ.below hT.out.bel
            obtain ⟨hb, c1, c2, c3⟩ := f k hlt _ hf
            clear f hf
            have hat : Hid (atF l (l.getD k nod0).2.1 = (ix l (par0 l k)).map (fun i : Nat => (i : Int))) := Lib.hid rfl
            have hpa : Hid (par0 l k = (l.getD k nod0).2.1) := Lib.hid rfl
            generalize (l.getD k nod0).1 = m at *
            generalize (l.getD k nod0).2.1 = pa at *
            generalize (l.getD k nod0).2.2 = ti at *
            have hT2 := TSt.alloc hT (.cells #[.int .i64 m, .int .i64 pa, .string ti] 51)
            have e1 : (wr.alloc (.cells #[.int .i64 m, .int .i64 pa, .string ti] 51)).cell? ⟨bt, 1, none⟩ = some (.map (some m1)) := hT2.out.tree.blk.cell 1
            have b0 : (wr.alloc (.cells #[.int .i64 m, .int .i64 pa, .string ti] 51)).cell? ⟨wr.heap.size, 1, none⟩ = some (.int .i64 pa) := box_at 1
            have E1 := Lib.hid (And.intro e1 b0)
            clear e1 b0
            obtain ⟨r, hr⟩ : ∃ r, Hid (atF l pa = r) := ⟨_, Lib.hid rfl⟩
            have hl : Hid (∀ q, (Instr.lookup 53 (.map (some m1)) (.int .i64 pa) true).run Tryz.prog ((wr.alloc (.cells #[.int .i64 m, .int .i64 pa, .string ti] 51)).drewN q) = .ok (.tuple #[.int .i64 (r.getD 0), .bool r.isSome]) ((wr.alloc (.cells #[.int .i64 m, .int .i64 pa, .string ti] 51)).drewN q)) := Lib.hid (fun q => by rw [← hr.out]; exact (hT2.out.tree.at_.drewN q).look_ok pa)
            go_wp2
            obtain ⟨e1, b0⟩ := E1.out
            replace hl := hl.out
            generalize wr.alloc (.cells #[.int .i64 m, .int .i64 pa, .string ti] 51) = wx at *
            go_quiet (fail)
            clear hl
            by_cases hp0 : pa = 0
            · have hg : ((pa : Int) != 0) = false := by simp [hp0]
              have HP0 := Lib.hid hp0
              clear hp0
              go_wp2
              go_roundw
              case rel => exact ⟨k + 1, by omega, by go_num, next_ok hpz (by rw [par5, hpa.out, if_neg (fun h => h.1 HP0.out)]), TSt.drewN hT2 _⟩
              case measure => simp [intOf]; omega
            have hg : ((pa : Int) != 0) = true := by simp [hp0]
            have HP0 := Lib.hid hp0
            clear hp0
            cases r with
            | none =>
              have hix : Hid (ix l pa = none) := Lib.hid (by
                have h1 := hr.out
                unfold atF at h1
                cases hx : ix l pa with
                | none => rfl
                | some j => rw [hx] at h1; cases h1)
              go_wp2
              go_ret2
              have h5 := treeF_5 hq.out hok0.out hpz.out hlt (by rw [par5, hpa.out, if_pos ⟨HP0.out, hix.out⟩])
              exact ⟨(TSt.drewN hT2 _).out.bel, .inl ⟨by rw [h5]; decide, by rw [h5]; rfl⟩⟩
            | some j =>
              have hix : Hid (ix l pa ≠ none) := Lib.hid (fun hx => by
                have h1 := hr.out
                unfold atF at h1
                rw [hx] at h1; cases h1)
              go_wp2
              go_roundw
              case rel => exact ⟨k + 1, by omega, by go_num, next_ok hpz (by rw [par5, hpa.out, if_neg (fun h => hix.out h.2)]), TSt.drewN hT2 _⟩
              case measure => simp [intOf]; omega
          · obtain rfl : k = n := by omega
            clear hlt hk
            rename Nat => n
            have HP := Lib.hid (par_of HOK.out hpz.out)
            go_wp2
            go_loopw [68] (fun i wr => ∃ k : Nat, k ≤ n ∧ i = .int .i64 k ∧ Hid (∀ i, i < k → cyc18 l i = 0) ∧ Hid (TSt w bt a c n m1 m2 (atF l) (lvK l k) wr)) (fun i _ => n - (intOf i).toNat)
            case atStart => exact ⟨0, Nat.zero_le _, rfl, none_yet _, hT⟩
            case round =>
              clear hT
              obtain ⟨k, hk, rfl, hcz, hT⟩ := hrel
              by_cases hlt : k < n
              · obtain ⟨b, off, rfl, f⟩ := s.nodesD hn hlt
                have hf := hφ.below hT.out.bel
                obtain ⟨hb, c1, c2, c3⟩ := f k hlt _ hf
                clear f hf
                have hme : Hid (cod l k = (l.getD k nod0).1) := Lib.hid rfl
                generalize (l.getD k nod0).1 = m at *
                generalize (l.getD k nod0).2.1 = pa at *
                generalize (l.getD k nod0).2.2 = ti at *
                have hT2 := TSt.alloc hT (.cells #[.int .i64 m, .int .i64 pa, .string ti] 51)
                have hM : Hid (∀ (hk : m = 0 ∨ (ix l m).isSome = true), Calls Tryz.prog 74 #[.pointer (some ⟨bt, 0, none⟩), .int .i64 m] (wr.alloc (.cells #[.int .i64 m, .int .i64 pa, .string ti] 51)) (MeasPost l n m m2 (lvK l k) (wr.alloc (.cells #[.int .i64 m, .int .i64 pa, .string ti] 51)))) := Lib.hid (measure_any (hφ.below hT2.out.bel) s hT2.out.tree HP m)
                have hnz : Hid (m ≠ 0 ∧ (ix l m).isSome = true) := Lib.hid (by
                  have h1 := (HOK.out.rng k hlt).1
                  have h2 := HOK.out.ix_of hlt
                  rw [hme.out] at h1 h2
                  exact ⟨by omega, by rw [h2]; rfl⟩)
                go_wp2_with fail
                refine (hM.out (.inr hnz.out.2)).mono ?_
                rintro e w' (⟨j, hj, rfl, hg, hw⟩ | ⟨hj, rfl, q2, rfl⟩)
                · have hT3 := TSt.put2 hT2 hg hw
                  rw [← hme.out, lvK_step l k (by rw [hme.out]; exact hnz.out.1) (by rw [hok0.out, hme.out]; exact hj)] at hT3
                  have HJ := Lib.hid hj
                  clear hg hw hj
                  go_wp2
                  go_roundw
                  case rel => exact ⟨k + 1, by omega, by go_num, next_ok hcz (by rw [cyc18, hok0.out, hme.out, HJ.out]; rfl), hT3⟩
                  case measure => simp [intOf]; omega
                · have HJ := Lib.hid hj
                  clear hj
                  go_wp2
                  go_ret2
                  have h5 := treeF_18 hq.out hok0.out hpz.out hcz.out hlt (by rw [cyc18, hok0.out, hme.out, HJ.out]; rfl)
                  exact ⟨(TSt.drewN hT2 _).out.bel, .inl ⟨by rw [h5]; decide, by rw [h5]; rfl⟩⟩
              · obtain rfl : k = n := by omega
                clear hlt hk
                rename Nat => n
                go_wp2
                have hLv : lvK l n = lvF l := by rw [← HOK.out.len]; rfl
                rw [hLv] at hT
                clear hLv
                go_loopw [80] (fun i wr => ∃ k : Nat, k ≤ n ∧ i = .int .i64 k ∧ Hid (∀ i, i < k → deep2 l i = 0) ∧ Hid (TSt w bt a c n m1 m2 (atF l) (lvF l) wr)) (fun i _ => n - (intOf i).toNat)
                case atStart => exact ⟨0, Nat.zero_le _, rfl, none_yet _, hT⟩
                case round =>
                  clear hT
                  obtain ⟨k, hk, rfl, hdz, hT⟩ := hrel
                  by_cases hlt : k < n
                  · obtain ⟨b, off, rfl, f⟩ := s.nodesD hn hlt
                    have hf := hφ.below hT.out.bel
                    obtain ⟨hb, c1, c2, c3⟩ := f k hlt _ hf
                    clear f hf
                    obtain ⟨j, hj⟩ := cyc_of hok0.out (hcz.out k hlt)
                    have hlf : Hid (lvF l (l.getD k nod0).1 = some (j : Int)) := Lib.hid (lvF_of HOK.out hlt hj)
                    have hlv : Hid (lvl l (cod l k) = j) := Lib.hid (lvl_of (by rw [hok0.out]; exact hj))
                    clear hj
                    generalize (l.getD k nod0).1 = m at *
                    generalize (l.getD k nod0).2.1 = pa at *
                    generalize (l.getD k nod0).2.2 = ti at *
                    have hT2 := TSt.alloc hT (.cells #[.int .i64 m, .int .i64 pa, .string ti] 51)
                    have e1 : (wr.alloc (.cells #[.int .i64 m, .int .i64 pa, .string ti] 51)).cell? ⟨bt, 2, none⟩ = some (.map (some m2)) := hT2.out.tree.blk.cell 2
                    have b0 : (wr.alloc (.cells #[.int .i64 m, .int .i64 pa, .string ti] 51)).cell? ⟨wr.heap.size, 0, none⟩ = some (.int .i64 m) := box_at 0
                    have E1 := Lib.hid (And.intro e1 b0)
                    clear e1 b0
                    have hl : Hid (∀ q, (Instr.lookup 53 (.map (some m2)) (.int .i64 m) false).run Tryz.prog ((wr.alloc (.cells #[.int .i64 m, .int .i64 pa, .string ti] 51)).drewN q) = .ok (.int .i64 (j : Int)) ((wr.alloc (.cells #[.int .i64 m, .int .i64 pa, .string ti] 51)).drewN q)) := Lib.hid (fun q => by
                      have := (hT2.out.tree.lev.drewN q).look_no m
                      rwa [hlf.out] at this)
                    go_wp2
                    obtain ⟨e1, b0⟩ := E1.out
                    replace hl := hl.out
                    generalize wr.alloc (.cells #[.int .i64 m, .int .i64 pa, .string ti] 51) = wx at *
                    go_quiet (fail)
                    clear hl
                    by_cases h8 : 8 < j
                    · go_wp2
                      go_ret2
                      have h5 := treeF_2 hq.out hok0.out hpz.out hcz.out hdz.out hlt (by rw [deep2, hlv.out, if_pos h8])
                      exact ⟨(TSt.drewN hT2 _).out.bel, .inl ⟨by rw [h5]; decide, by rw [h5]; rfl⟩⟩
                    · go_wp2
                      go_roundw
                      case rel => exact ⟨k + 1, by omega, by go_num, next_ok hdz (by rw [deep2, hlv.out, if_neg h8]), TSt.drewN hT2 _⟩
                      case measure => simp [intOf]; omega
                  · obtain rfl : k = n := by omega
                    go_wp2
                    go_ret2
                    exact ⟨hT.out.bel, .inr ⟨treeF_0 hq.out hok0.out hpz.out hcz.out hdz.out, tr_of HP.out hcz.out hdz.out, bt, m1, m2, rfl, hT.out.tree⟩⟩
  · have hz : ((q : Int) != 0) = true := by simp [h0]
    have H0 := Lib.hid h0
    clear h0
    go_enter Tryz.func49, Tryz.ntmps49
    go_wp2_with fail
    refine (nodesFault_any n a c l w φ hφ s hn hm).mono ?_
    rintro e w1 ⟨rfl, hb⟩
    rw [hq.out]
    have HB := Lib.hid hb
    clear hb
    go_wp2
    go_ret2
    have : treeF l = q := by rw [treeF, hq.out, if_pos H0.out]
    exact ⟨HB.out, .inl ⟨by rw [this]; exact H0.out, by rw [this]; rfl⟩⟩
theorem treeF_zero {l : List Nod} (h : treeF l = 0) : TrOk l l.length := by
  unfold treeF at h
  split at h
  · next a => exact absurd h a
  · next a =>
    split at h
    · cases h
    · next b =>
      split at h
      · cases h
      · next c =>
        split at h
        · cases h
        · next d =>
          have a' : nodesF l = 0 := by simpa using a
          have b' : scan (par5 l) l.length = 0 := by simpa using b
          have c' : scan (cyc18 l) l.length = 0 := by simpa using c
          have d' : scan (deep2 l) l.length = 0 := by simpa using d
          exact tr_of (par_of (nodesF_zero a') (scan_all _ b')) (scan_all _ c') (scan_all _ d')
end Go.Proofs.YtngogjookldidaaGreatDoor

namespace Go.Proofs.YtngogjookldidaaGreatDoor
open Go.RowKit
set_option linter.unusedVariables false
set_option linter.unusedSimpArgs false

def miss5 (l : List Nod) (cs : List Int) (i : Nat) : Int := if (ix l (cs.getD i 0)).isSome = true then 0 else 5
noncomputable def codedF (l : List Nod) (cs : List Int) : Int := if treeF l ≠ 0 then treeF l else scan (miss5 l cs) cs.length
def CodedPost (l : List Nod) (cs : List Int) (n : Nat) (a : Option Addr) (c : Nat) (w : World) (e : Ending) (w' : World) : Prop :=
  Below w.heap.size w w' ∧ ((codedF l cs ≠ 0 ∧ e = .returned (.tuple #[.pointer none, .int .i64 (codedF l cs)])) ∨ (codedF l cs = 0 ∧ TrOk l n ∧ (∀ i, i < cs.length → (ix l (cs.getD i 0)).isSome = true) ∧ ∃ bt m1 m2, e = .returned (.tuple #[.pointer (some ⟨bt, 0, none⟩), .int .i64 0]) ∧ TreeW w' bt a c n m1 m2 (atF l) (lvF l)))
theorem has_t {w : World} {bt : Nat} {a : Option Addr} {c n m1 m2 : Nat} {f1 f2 : Int → Option Int} (h : TreeW w bt a c n m1 m2 f1 f2) (k : Int) (hk : (f1 k).isSome = true) :
    Calls Tryz.prog 75 #[.pointer (some ⟨bt, 0, none⟩), .int .i64 k] w fun e w' => e = .returned (.bool true) ∧ w = w' := by rw [← hk]; exact has_any h k
theorem has_f {w : World} {bt : Nat} {a : Option Addr} {c n m1 m2 : Nat} {f1 f2 : Int → Option Int} (h : TreeW w bt a c n m1 m2 f1 f2) (k : Int) (hk : (f1 k).isSome = false) :
    Calls Tryz.prog 75 #[.pointer (some ⟨bt, 0, none⟩), .int .i64 k] w fun e w' => e = .returned (.bool false) ∧ w = w' := by rw [← hk]; exact has_any h k
end Go.Proofs.YtngogjookldidaaGreatDoor

namespace Go.Proofs.YtngogjookldidaaGreatDoor
open Go.RowKit
set_option linter.unusedVariables false
set_option linter.unusedSimpArgs false

abbrev Cdg := Int × Int × Int
abbrev cdg0 : Cdg := (0, 0, 0)
theorem SlV.cdgD {φ : Phi} {a : Option Addr} {cap : Nat} {xs : List Cdg} (h : SlV φ a cap xs) {k n : Nat} (hn : Hid (xs.length = n)) (hk : k < n) :
    ∃ b off, a = some ⟨b, off, none⟩ ∧ ∀ k, k < n → ∀ w, Fz φ w → b < w.heap.size ∧ w.cell? ⟨b, off + k * 3, none⟩ = some (.int .i64 (xs.getD k cdg0).1) ∧ w.cell? ⟨b, off + k * 3 + 1, none⟩ = some (.int .i64 (xs.getD k cdg0).2.1) ∧ w.cell? ⟨b, off + k * 3 + 2, none⟩ = some (.int .i64 (xs.getD k cdg0).2.2) := by
  obtain ⟨b, off, ha, hc⟩ := h.cellsD cdg0 hn hk
  refine ⟨b, off, ha, fun k hk w hw => ?_⟩
  obtain ⟨cs, ⟨c, d, rfl, h1, c2, d2, rfl, h2, h3⟩, hj⟩ := hc k hk
  cases h1; cases h2; cases h3
  have j0 := hj 0 (by simp)
  have j1 := hj 1 (by simp)
  have j2 := hj 2 (by simp)
  simp [Rep.size] at j0 j1 j2
  exact ⟨hw.lt j0, hw.cell j0, hw.cell j1, hw.cell j2⟩

def cdgBad (l : List Nod) (cs : List Cdg) (k : Nat) : Int :=
  if (cs.getD k cdg0).1 < 1 then 1
  else if outB (cs.getD k cdg0).2.1 1 50 = true then 1
  else if (ix l (cs.getD k cdg0).2.2).isSome = false then 5
  else if k = 0 then 0
  else if (cs.getD k cdg0).1 < (cs.getD (k - 1) cdg0).1 then 7
  else if (cs.getD k cdg0).1 = (cs.getD (k - 1) cdg0).1 then
    if (cs.getD k cdg0).2.1 < (cs.getD (k - 1) cdg0).2.1 then 7 else if (cs.getD k cdg0).2.1 = (cs.getD (k - 1) cdg0).2.1 then 6 else 0
  else 0
def cdgF (l : List Nod) (cs : List Cdg) : Int := if 20000 < cs.length then 2 else scan (cdgBad l cs) cs.length
theorem cdgF_at {l : List Nod} {cs : List Cdg} {n k : Nat} (hn : Hid (cs.length = n)) (hl : n ≤ 20000) (hk : k < n) (h : Hid (∀ i, i < k → cdgBad l cs i = 0)) {c : Int} (hc : cdgBad l cs k = c) (hc0 : c ≠ 0) : cdgF l cs = c := by
  rw [cdgF, hn.out, if_neg (by omega), scan_stop h.out hk (by rw [hc]; exact hc0), hc]
theorem cdgF_ok {l : List Nod} {cs : List Cdg} {n : Nat} (hn : Hid (cs.length = n)) (hl : n ≤ 20000) (h : Hid (∀ i, i < n → cdgBad l cs i = 0)) : cdgF l cs = 0 := by
  rw [cdgF, hn.out, if_neg (by omega), scan_zero _ _ h.out]

theorem atF_isNone (l : List Nod) (k : Int) : (atF l k).isNone = (ix l k).isNone := by unfold atF; simp
set_option maxHeartbeats 1000000 in
theorem codingsFault_any {w : World} {bt : Nat} {a : Option Addr} {c n m1 m2 : Nat} {f2 : Int → Option Int} {l : List Nod} (ht : TreeW w bt a c n m1 m2 (atF l) f2) {ac : Option Addr} {cc nc : Nat} {cs : List Cdg} {φ : Phi} (hφ : Fz φ w) (sc : SlV φ ac cc cs) (hnc : Hid (cs.length = nc)) (hmc : nc ≤ 9223372036854775807) :
    Calls Tryz.prog 50 #[.pointer (some ⟨bt, 0, none⟩), .slice ac nc cc] w (IntB (cdgF l cs) w) := by
  have HT := Lib.hid ht
  clear ht
  by_cases hl : 20000 < nc
  · go_enter Tryz.func50, Tryz.ntmps50
    go_wp2
    go_ret
    exact ⟨ret_int (by rw [cdgF, hnc.out, if_pos hl]), Below.refl _ _⟩
  go_enter Tryz.func50, Tryz.ntmps50
  go_wp2
  go_loopw [13] (fun i wr => ∃ k : Nat, k ≤ nc ∧ i = .int .i64 k ∧ Hid (∀ i, i < k → cdgBad l cs i = 0) ∧ Below w.heap.size w wr) (fun i _ => nc - (intOf i).toNat)
  case atStart => exact ⟨0, Nat.zero_le _, rfl, none_yet _, Below.refl _ _⟩
  case round =>
    obtain ⟨k, hk, rfl, hok, hbel⟩ := hrel
    by_cases hlt : k < nc
    · obtain ⟨b, off, rfl, f⟩ := sc.cdgD hnc hlt
      have hf := hφ.below hbel
      obtain ⟨hb, c1, c2, c3⟩ := f k hlt wr hf
      have hp : 0 < k → wr.cell? ⟨b, off + (k - 1) * 3, none⟩ = some (.int .i64 (cs.getD (k - 1) cdg0).1) ∧ wr.cell? ⟨b, off + (k - 1) * 3 + 1, none⟩ = some (.int .i64 (cs.getD (k - 1) cdg0).2.1) ∧ wr.cell? ⟨b, off + (k - 1) * 3 + 2, none⟩ = some (.int .i64 (cs.getD (k - 1) cdg0).2.2) := fun h => (f (k - 1) (by omega) wr hf).2
      have hbad : Hid (cdgBad l cs k = _) := Lib.hid (cdgBad.eq_1 l cs k)
      have HP := Lib.hid hp
      clear f hp
      generalize (cs.getD k cdg0).1 = x1 at *
      generalize (cs.getD k cdg0).2.1 = x2 at *
      generalize (cs.getD k cdg0).2.2 = x3 at *
      generalize (cs.getD (k - 1) cdg0).1 = y1 at *
      generalize (cs.getD (k - 1) cdg0).2.1 = y2 at *
      generalize (cs.getD (k - 1) cdg0).2.2 = y3 at *
      have hbel2 : ∀ o, Below w.heap.size w (wr.alloc o) := fun o => hbel.alloc hbel.size o
      have HT2 := fun o => Lib.hid (HT.out.callB (hbel2 o))
      by_cases h0 : k = 0
      · have h0i : ((k : Int) == 0) = true := by simp [h0]
        have H0 := Lib.hid h0
        clear h0 HP
        go_wp2_with (first | (go_at_call 35; refine (outside_any _ _ _ _).mono ?_; rintro e w' ⟨rfl, rfl⟩) | (go_at_call 75; refine (has_any (HT2 _).out _).mono ?_; rintro e w' ⟨rfl, rfl⟩))
        all_goals have h0 := H0.out
        all_goals (try simp only [atF_isNone, Option.isNone_iff_eq_none] at *)
        all_goals first
          | (go_ret; exact ⟨ret_int (cdgF_at hnc (by omega) hlt hok (by rw [hbad.out]; ((repeat' split) <;> (first | rfl | omega | (simp_all; done) | (exfalso; simp_all; omega) | (simp_all; omega)))) (by decide)).symm, hbel2 _⟩)
          | (go_roundw
             case rel => exact ⟨k + 1, by omega, by go_num, next_ok hok (by rw [hbad.out]; ((repeat' split) <;> (first | rfl | omega | (simp_all; done) | (exfalso; simp_all; omega) | (simp_all; omega)))), hbel2 _⟩
             case measure => simp [intOf]; omega)
      · have h0i : ((k : Int) == 0) = false := by simp [h0]
        obtain ⟨p1, p2, p3⟩ := HP.out (by omega)
        have hix : 0 ≤ (k : Int) - 1 := by omega
        have hix2 : (k : Int) - 1 < nc := by omega
        have hto : ((k : Int) - 1).toNat = k - 1 := by omega
        have hbel3 : ∀ o o', Below w.heap.size w ((wr.alloc o).alloc o') := fun o o' => (hbel2 o).alloc (hbel2 o).size o'
        clear HP
        go_wp2_with (first | (go_at_call 35; refine (outside_any _ _ _ _).mono ?_; rintro e w' ⟨rfl, rfl⟩) | (go_at_call 75; refine (has_any (HT2 _).out _).mono ?_; rintro e w' ⟨rfl, rfl⟩))
        all_goals clear hto
        all_goals (try simp only [atF_isNone, Option.isNone_iff_eq_none] at *)
        all_goals first
          | (go_ret; exact ⟨ret_int (cdgF_at hnc (by omega) hlt hok (by rw [hbad.out]; ((repeat' split) <;> (first | rfl | omega | (simp_all; done) | (exfalso; simp_all; omega) | (simp_all; omega)))) (by decide)).symm, hbel2 _⟩)
          | (go_ret; exact ⟨ret_int (cdgF_at hnc (by omega) hlt hok (by rw [hbad.out]; ((repeat' split) <;> (first | rfl | omega | (simp_all; done) | (exfalso; simp_all; omega) | (simp_all; omega)))) (by decide)).symm, hbel3 _ _⟩)
          | (go_roundw
             case rel => exact ⟨k + 1, by omega, by go_num, next_ok hok (by rw [hbad.out]; ((repeat' split) <;> (first | rfl | omega | (simp_all; done) | (exfalso; simp_all; omega) | (simp_all; omega)))), hbel3 _ _⟩
             case measure => simp [intOf]; omega)
    · obtain rfl : k = nc := by omega
      go_wp2
      go_ret
      exact ⟨ret_int (cdgF_ok hnc (by omega) hok).symm, hbel⟩

/-- The error of a frame and codings. -/
noncomputable def frcF (l : List Nod) (cs : List Cdg) : Int := if treeF l ≠ 0 then treeF l else cdgF l cs
def CodersPost (l : List Nod) (cs : List Cdg) (n : Nat) (a : Option Addr) (c : Nat) (w : World) (e : Ending) (w' : World) : Prop :=
  Below w.heap.size w w' ∧ ((frcF l cs ≠ 0 ∧ ∃ p, e = .returned (.tuple #[.pointer p, .int .i64 (frcF l cs)])) ∨ (frcF l cs = 0 ∧ TrOk l n ∧ ∃ bt m1 m2, e = .returned (.tuple #[.pointer (some ⟨bt, 0, none⟩), .int .i64 0]) ∧ TreeW w' bt a c n m1 m2 (atF l) (lvF l)))
theorem coders_any {w : World} {a : Option Addr} {c n : Nat} {l : List Nod} {φ : Phi} (hφ : Fz φ w) (s : SlV φ a c l) (hn : Hid (l.length = n)) (hm : n ≤ 9223372036854775807) {ac : Option Addr} {cc nc : Nat} {cs : List Cdg} (sc : SlV φ ac cc cs) (hnc : Hid (cs.length = nc)) (hmc : nc ≤ 9223372036854775807) :
    Calls Tryz.prog 25 #[.slice a n c, .slice ac nc cc] w (CodersPost l cs n a c w) := by
  go_enter Tryz.func25, Tryz.ntmps25
  go_wp2_with fail
  refine (treeOf_any hφ s hn hm).mono ?_
  rintro e w1 ⟨hb, ⟨h0, rfl⟩ | ⟨h0, hok, bt, m1, m2, rfl, ht⟩⟩
  · obtain ⟨q, hq⟩ : ∃ q, Hid (treeF l = q) := ⟨_, Lib.hid rfl⟩
    rw [hq.out] at h0 ⊢
    have hg : ((q : Int) != 0) = true := by simp [h0]
    have H0 := Lib.hid h0
    have HB := Lib.hid hb
    clear h0 hb
    go_wp2
    go_ret2
    have e : frcF l cs = q := by rw [frcF, hq.out, if_pos H0.out]
    exact ⟨HB.out, .inl ⟨by rw [e]; exact H0.out, _, by rw [e]; rfl⟩⟩
  · have H0 := Lib.hid h0
    have HB := Lib.hid hb
    have HO := Lib.hid hok
    have HT := Lib.hid ht
    clear h0 hb hok ht
    go_wp2_with fail
    refine (codingsFault_any HT.out (hφ.below HB.out) sc hnc hmc).mono ?_
    rintro e w2 ⟨rfl, hb⟩
    have HT2 := Lib.hid (HT.out.callB hb)
    have HB2 := Lib.hid (HB.out.trans (hb.mono HB.out.size))
    have e : Hid (frcF l cs = cdgF l cs) := Lib.hid (by rw [frcF, if_neg (by simp [H0.out])])
    obtain ⟨q, hq⟩ : ∃ q, Hid (cdgF l cs = q) := ⟨_, Lib.hid rfl⟩
    rw [hq.out] at e ⊢
    clear hb
    go_wp2
    go_ret2
    refine ⟨HB2.out, ?_⟩
    rw [e.out]
    by_cases h : q = 0
    · subst h; exact .inr ⟨rfl, HO.out, bt, m1, m2, rfl, HT2.out⟩
    · exact .inl ⟨h, _, rfl⟩
end Go.Proofs.YtngogjookldidaaGreatDoor
