/- The walks of the reference's within, titled, find. Conditions: none beyond what the claim form gives. -/
import Derived.Test.YtapkkplndhbapaaDoorK6
import Derived.Test.YtapkkplndhbapaaDoorFm
import Derived.Test.YtapkkplndhbapaaDoorIdx
import Derived.Test.YtapkkplndhbapaaDoorLit
namespace Go.Proofs.YtapkkplndhbapaaDoor
open Go.RowKit
set_option linter.unusedVariables false

theorem within_any (n lo hi : Int) (w : World) :
    Calls Tryd.prog 25 #[.int .i64 n, .int .i64 lo, .int .i64 hi] w fun e w' => e = .returned (.bool (!outB n lo hi)) ∧ w = w' := by
  go_enter Tryd.func25, Tryd.ntmps25
  by_cases h : lo ≤ n
  · go_wp2
    go_ret
    exact ⟨ret_bool (by unfold outB; rw [Bool.eq_iff_iff]; simp; omega), rfl⟩
  · go_wp2
    go_ret
    exact ⟨ret_bool (by unfold outB; rw [Bool.eq_iff_iff]; simp; omega), rfl⟩
theorem within_b (n lo hi : Int) (w : World) {b : Bool} (h : outB n lo hi = b) :
    Calls Tryd.prog 25 #[.int .i64 n, .int .i64 lo, .int .i64 hi] w fun e w' => e = .returned (.bool (!b)) ∧ w = w' := by rw [← h]; exact within_any n lo hi w
set_option maxHeartbeats 400000 in
theorem titled_any (s : ByteArray) (w : World) (hs : s.size ≤ 1000000000) :
    Calls Tryd.prog 26 #[.string s] w fun e w' => e = .returned (.bool (titleB s)) ∧ w = w' := by
  go_enter Tryd.func26, Tryd.ntmps26
  by_cases hz : s.size = 0
  · have he : s.toList.isEmpty = true := by rw [isEmpty_iff]; simp [hz]
    have he2 : s.toList = [] := List.isEmpty_iff.1 he
    have HZ := Lib.hid hz
    clear hz
    go_wp2
    go_ret
    exact ⟨ret_bool (titleB_false (fun h => by have := h.2.1; have := HZ.out; omega)).symm, rfl⟩
  have he : s.toList.isEmpty = false := by rw [isEmpty_iff]; simp [hz]
  have hp : 0 < s.size := by omega
  have hp2 : s.size - 1 < s.size := by omega
  have b0 := Lib.hid (byt_eq s 0 hp)
  have b1 := Lib.hid (byt_eq s (s.size - 1) hp2)
  clear hz
  by_cases h0 : ((s[0]'hp).toNat : Int) = 32
  · have hb0 : (((s[0]'hp).toNat : Int) == 32) = true := by simp [h0]
    have H0 := Lib.hid h0
    clear h0
    go_wp2
    go_ret
    exact ⟨ret_bool (titleB_false (fun h => h.2.2.1 (b0.out.trans H0.out))).symm, rfl⟩
  have hb0 : (((s[0]'hp).toNat : Int) == 32) = false := by simp [h0]
  have H0 := Lib.hid h0
  clear h0
  by_cases h1 : ((s[s.size - 1]'hp2).toNat : Int) = 32
  · have hb1 : (((s[s.size - 1]'hp2).toNat : Int) == 32) = true := by simp [h1]
    have H1 := Lib.hid h1
    clear h1
    go_wp2
    go_ret
    exact ⟨ret_bool (titleB_false (fun h => h.2.2.2 (b1.out.trans H1.out))).symm, rfl⟩
  have hb1 : (((s[s.size - 1]'hp2).toNat : Int) == 32) = false := by simp [h1]
  have H1 := Lib.hid h1
  clear h1
  go_wp2
  go_loop [21] (fun i => ∃ k : Nat, k ≤ s.size ∧ i = .int .i64 k ∧ Hid (∀ i, i < k → outB (byt s i) 32 126 = false)) (fun i => s.size - (intOf i).toNat)
  case atStart => exact ⟨0, Nat.zero_le _, rfl, Lib.hid (fun i hi => by omega)⟩
  case round =>
    clear hb0 hb1
    obtain ⟨k, hk, rfl, hok⟩ := hrel
    by_cases hlt : k < s.size
    · have hb := byt_bd s k
      have he := Lib.hid (byt_eq s k hlt)
      have hc : ((s[k]'hlt).toNat : Int) < 256 := by rw [← he.out]; omega
      go_wp2_with fail
      rw [← he.out]
      obtain ⟨o, ho⟩ : ∃ o, Hid (outB (byt s k) 32 126 = o) := ⟨_, Lib.hid rfl⟩
      refine (within_b _ _ _ _ ho.out).mono ?_
      rintro e w' ⟨rfl, rfl⟩
      cases o
      · go_wp2
        go_round
        case rel => exact ⟨k + 1, by omega, by go_num, Lib.hid (fun i hi => by
          by_cases e : i = k
          · subst e; exact ho.out
          · exact hok.out i (by omega))⟩
        case measure => (simp [intOf] <;> omega)
      · go_wp2
        go_ret
        exact ⟨ret_bool (titleB_false (fun h => by have := h.1 k hlt; rw [ho.out] at this; cases this)).symm, rfl⟩
    · obtain rfl : k = s.size := by omega
      go_wp2
      go_ret
      exact ⟨ret_bool (titleB_true ⟨hok.out, hp, fun e => H0.out (b0.out.symm.trans e), fun e => H1.out (b1.out.symm.trans e)⟩).symm, rfl⟩

/-- The place of a code, or -1. -/
def fdI (l : List Nod) (c : Int) : Int := match ix l c with | some i => (i : Int) | none => -1
theorem fdI_some {l : List Nod} {c : Int} {i : Nat} (h : ix l c = some i) : fdI l c = i := by rw [fdI, h]
theorem fdI_none {l : List Nod} {c : Int} (h : ix l c = none) : fdI l c = -1 := by rw [fdI, h]
theorem find_any {w : World} {a : Option Addr} {c n : Nat} {l : List Nod} {φ : Phi} (hφ : Fz φ w) (s : SlV φ a c l) (hok : Hid (FrOk l n)) (x : Int) :
    Calls Tryd.prog 27 #[.slice a n c, .int .i64 x] w fun e w' => e = .returned (.int .i64 (fdI l x)) ∧ Below w.heap.size w w' := by
  have hn : Hid (l.length = n) := Lib.hid hok.out.len
  have hn6 : n ≤ 600 := hok.out.pos.2
  go_enter Tryd.func27, Tryd.ntmps27
  go_wp2
  go_loopw [9] (fun i wr => ∃ k : Nat, k ≤ n ∧ i = .int .i64 k ∧ Hid (∀ i, i < k → cod l i ≠ x) ∧ Below w.heap.size w wr) (fun i _ => n - (intOf i).toNat)
  case atStart => exact ⟨0, Nat.zero_le _, rfl, Lib.hid (fun i hi => by omega), Below.refl _ _⟩
  case round =>
    obtain ⟨k, hk, rfl, hne, hbel⟩ := hrel
    by_cases hlt : k < n
    · obtain ⟨b, off, rfl, f⟩ := s.nodesD hn hlt
      obtain ⟨hb, c1, c2, c3⟩ := f k hlt wr (hφ.below hbel)
      have hix := Lib.hid (hok.out.ix_of hlt)
      have hcd : Hid (cod l k = (l.getD k nod0).1) := Lib.hid rfl
      clear f
      generalize (l.getD k nod0).1 = m at *
      generalize (l.getD k nod0).2.1 = pa at *
      generalize (l.getD k nod0).2.2 = ti at *
      have hbel2 : ∀ o, Below w.heap.size w (wr.alloc o) := fun o => hbel.alloc hbel.size o
      by_cases he : m = x
      · subst he
        go_wp2
        go_ret
        exact ⟨ret_int (by rw [← hcd.out, fdI_some hix.out]), hbel2 _⟩
      · have hbq : ((m : Int) == x) = false := by simp [he]
        have HE := Lib.hid he
        clear he
        go_wp2
        go_roundw
        case rel => exact ⟨k + 1, by omega, by go_num, Lib.hid (fun i hi => by
          by_cases e : i = k
          · subst e; rw [hcd.out]; exact HE.out
          · exact hne.out i (by omega)), hbel2 _⟩
        case measure => (simp [intOf] <;> omega)
    · obtain rfl : k = n := by omega
      go_wp2
      go_ret
      refine ⟨ret_int (fdI_none ?_).symm, hbel⟩
      cases hx : ix l x with
      | none => rfl
      | some i => obtain ⟨h1, h2⟩ := hok.out.ix_some hx; exact absurd h2 (hne.out i h1)
end Go.Proofs.YtapkkplndhbapaaDoor
