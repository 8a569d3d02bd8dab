/- The reference's natural numbers: the walks of divide (for numbers of one limb) and divisor. Conditions: none beyond what the claim form gives. -/
import Derived.Test.YtafcecgcmaoakaaDoorB3
import Derived.Test.YtafcecgcmaoakaaDoorA3
namespace Go.Proofs.YtafcecgcmaoakaaDoor
open Go.RowKit
set_option linter.unusedVariables false
/-- Two natural numbers. -/
def DivI (m n : Nat) (φ : Phi) (w : World) (e : Ending) (w' : World) : Prop :=
  ∃ a1 c1 a2 c2 φ', e = .returned (.tuple #[.slice a1 (limbs m).length c1, .slice a2 (limbs n).length c2]) ∧ Inv w.heap.size w φ φ' w' ∧ SlV φ' a1 c1 (limbs m) ∧ SlV φ' a2 c2 (limbs n)
/-- What divide gives, for numbers up to M. -/
def RdivOk (M : Nat) : Prop := ∀ (m n k1 k2 : Nat) (a1 a2 : Option Addr) (c1 c2 : Nat) (w : World) (φ : Phi), Fz φ w → SlV φ a1 c1 (limbs m) → SlV φ a2 c2 (limbs n) → Hid ((limbs m).length = k1) → Hid ((limbs n).length = k2) → m ≤ M → n ≤ M → 0 < n →
  Calls Tryd.prog 81 #[.slice a1 k1 c1, .slice a2 k2 c2] w (DivI (m / n) (m % n) φ w)
set_option maxHeartbeats 1000000 in
theorem Rdiv_one : RdivOk 999999999 := by
  intro m n k1 k2 a1 a2 c1 c2 w φ hφ s1 s2 h1 h2 hm9 hn99 hn0
  have hk1 : k1 ≤ 1 := by rw [← h1.out]; exact len_le1 hm9
  have hk2 : k2 ≤ 1 := by rw [← h2.out]; exact len_le1 hn99
  obtain ⟨q, hq⟩ : ∃ q, Hid (cmpN m n = q) := ⟨_, Lib.hid rfl⟩
  have HF := Lib.hid hφ
  have S1 := Lib.hid s1
  have S2 := Lib.hid s2
  have hcap : k1 ≤ c1 := by rw [← h1.out]; exact s1.capn
  clear s1 s2 hφ
  go_enter Tryd.func81, Tryd.ntmps81
  by_cases hlt : m < n
  · have hq1 : q = -1 := by rw [← hq.out, cmpN, if_pos hlt]
    subst hq1
    have e1 : Hid (m / n = 0 ∧ m % n = m) := Lib.hid ⟨Nat.div_eq_of_lt hlt, Nat.mod_eq_of_lt hlt⟩
    go_wp2_with (go_at_call 55; refine (Rorder_any HF.out S1.out S2.out h1 h2 (by omega) (by omega) hq).mono ?_; rintro e w' ⟨rfl, hb⟩)
    go_ret2
    rename World => w'
    refine ⟨none, 0, a1, c1, φ, ?_, (Inv.start HF.out).callB (by assumption), ?_, ?_⟩
    · rw [e1.out.1, e1.out.2, limbs_zero, h1.out]; rfl
    · rw [e1.out.1, limbs_zero]; exact SlV.empty φ
    · rw [e1.out.2]; exact S1.out
  · have hq1 : 0 ≤ q := by rw [← hq.out, cmpN, if_neg hlt]; split <;> omega
    have hqn : ¬ q < 0 := by omega
    have hnl : n < lb := by show n < 1000000000; omega
    have hk2' : k2 = 1 := by rw [← h2.out, limbs_one hn0 hnl]; rfl
    subst hk2'
    obtain ⟨b, off, rfl, f⟩ := S2.out.natI h2 (k := 0) (by omega)
    have hg0 : (limbs n).getD 0 0 = n := by rw [limbs_one hn0 hnl]; rfl
    have hc := Lib.hid (fun w (hw : Fz φ w) => (f 0 (by omega) w hw).2)
    rw [hg0, Nat.add_zero] at hc
    have hn9 : n ≤ 1000000000 := Nat.le_of_lt hnl
    have hrl : m % n < 9223372036854775808 := by have := Nat.mod_lt m hn0; omega
    clear f hg0
    go_wp2_with (first
      | (go_at_call 55; refine (Rorder_any HF.out S1.out S2.out h1 h2 (by omega) (by omega) hq).mono ?_; rintro e w1 ⟨rfl, hb⟩; have HI := Lib.hid ((Inv.start HF.out).callB hb); have d1 := hc.out w1 HI.out.fz)
      | (go_at_call 112; refine (Rshort_any HI.out.fz S1.out h1 (by omega) hn0 hn9).mono ?_; rintro e w2 ⟨a8, c8, φ8, rfl, hi8, hs8⟩; have HI8 := Lib.hid hi8; have HS8 := Lib.hid hs8; clear hi8 hs8)
      | (go_at_call 51; refine (Rsmall_any (m % n) hrl _ _ HI8.out.fz).mono ?_; rintro e w3 ⟨a9, c9, φ9, rfl, hi9, hs9⟩))
    go_ret2
    exact ⟨a8, c8, a9, c9, φ9, rfl, (HI.out.call HI8.out).call hi9, HS8.out.mono hi9.le, hs9⟩
/-- The number that a slice holds in a world. -/
def natAt (w : World) (v : Value) : Nat :=
  match v with
  | .slice (some a) n _ => LV ((List.range n).map fun k => match w.cell? ⟨a.block, a.off + k, none⟩ with | some (.int _ z) => z.toNat | _ => 0)
  | _ => 0
theorem natAt_I {φ : Phi} {w : World} {a : Option Addr} {c k y : Nat} (hφ : Fz φ w) (s : SlV φ a c (limbs y)) (hk : Hid ((limbs y).length = k)) : natAt w (.slice a k c) = y := by
  cases k with
  | zero =>
    have : y = 0 := limbs_len0.1 hk.out
    subst this
    cases a <;> rfl
  | succ k =>
    obtain ⟨b, off, rfl, f⟩ := s.natI hk (k := 0) (by omega)
    show LV _ = y
    have : ((List.range (k + 1)).map fun j => match w.cell? ⟨b, off + j, none⟩ with | some (.int _ z) => z.toNat | _ => 0) = limbs y := by
      apply List.ext_getElem (by rw [List.length_map, List.length_range, hk.out])
      intro i h1 h2
      rw [List.getElem_map, List.getElem_range, (f i (by rw [← hk.out]; exact h2) w hφ).2, getD_elem0 0 _ _ h2]
      simp
    rw [this, LV_limbs]
/-- Two numbers in a loop. -/
structure GcI (w0 : World) (φ : Phi) (a1 : Option Addr) (c1 : Nat) (x : Nat) (a2 : Option Addr) (c2 : Nat) (y : Nat) (φ' : Phi) (w : World) : Prop where
  inv : Inv w0.heap.size w0 φ φ' w
  s1 : SlV φ' a1 c1 (limbs x)
  s2 : SlV φ' a2 c2 (limbs y)
set_option maxHeartbeats 1000000 in
theorem Rdivisor_any {M : Nat} (hD : Hid (RdivOk M)) {m n k1 k2 : Nat} {a1 a2 : Option Addr} {c1 c2 : Nat} {w : World} {φ : Phi} (hφ : Fz φ w) (s1 : SlV φ a1 c1 (limbs m)) (s2 : SlV φ a2 c2 (limbs n)) (h1 : Hid ((limbs m).length = k1)) (h2 : Hid ((limbs n).length = k2)) (hm : m ≤ M) (hn : n ≤ M) :
    Calls Tryd.prog 80 #[.slice a1 k1 c1, .slice a2 k2 c2] w (NatI (Nat.gcd m n) φ w) := by
  have hS0 : Hid (GcI w φ a1 c1 m a2 c2 n φ w) := Lib.hid ⟨Inv.start hφ, s1, s2⟩
  clear s1 s2 hφ
  go_enter Tryd.func80, Tryd.ntmps80
  go_wp2
  go_loopw [0, 1] (fun u v wr => ∃ (x y k1 k2 : Nat) (a1 a2 : Option Addr) (c1 c2 : Nat) (φ' : Phi), x ≤ M ∧ y ≤ M ∧ u = .slice a1 k1 c1 ∧ v = .slice a2 k2 c2 ∧ Hid ((limbs x).length = k1) ∧ Hid ((limbs y).length = k2) ∧ Hid (Nat.gcd x y = Nat.gcd m n) ∧ Hid (GcI w φ a1 c1 x a2 c2 y φ' wr)) (fun _ v wr => natAt wr v)
  case atStart => exact ⟨m, n, k1, k2, a1, a2, c1, c2, φ, hm, hn, rfl, rfl, h1, h2, Lib.hid rfl, hS0⟩
  case round =>
    clear hS0 hm hn h1 h2
    obtain ⟨x, y, k1, k2, a1, a2, c1, c2, φ', hx, hy, rfl, rfl, h1, h2, hg, hS⟩ := hrel
    by_cases h0 : k2 = 0
    · subst h0
      have hy : y = 0 := limbs_len0.1 h2.out
      have e : Hid (x = Nat.gcd m n) := Lib.hid (by rw [← hg.out, hy, Nat.gcd_zero_right])
      go_wp2
      go_ret
      refine ⟨a1, c1, φ', ?_, hS.out.inv, ?_⟩
      · rw [← e.out, h1.out]; rfl
      · rw [← e.out]; exact hS.out.s1
    · have hy0 : 0 < y := by
        rcases Nat.eq_zero_or_pos y with q | q
        · exfalso; apply h0; rw [← h2.out, q, limbs_zero]; rfl
        · exact q
      have hk0 : (0 : Int) < (k2 : Int) := by omega
      have hme : Hid (natAt wr (.slice a2 k2 c2) = y) := Lib.hid (natAt_I hS.out.inv.fz hS.out.s2 h2)
      have hmod : x % y < y := Nat.mod_lt x hy0
      obtain ⟨k3, h3⟩ : ∃ k3, Hid ((limbs (x % y)).length = k3) := ⟨_, Lib.hid rfl⟩
      have hx3 : x % y ≤ M := by omega
      have hg2 : Hid (Nat.gcd y (x % y) = Nat.gcd m n) := Lib.hid (by rw [← hg.out, Nat.gcd_comm y, ← Nat.gcd_rec, Nat.gcd_comm])
      clear h0
      go_wp2_with (go_at_call 81; refine (hD.out x y k1 k2 a1 a2 c1 c2 _ φ' hS.out.inv.fz hS.out.s1 hS.out.s2 h1 h2 hx hy hy0).mono ?_; rintro e w2 ⟨a8, c8, a9, c9, φ9, rfl, hi9, hs8, hs9⟩; rw [h3.out])
      go_roundw
      case rel => exact ⟨y, x % y, k2, k3, a2, a9, c2, c9, φ9, hy, hx3, rfl, rfl, h2, h3, hg2, Lib.hid ⟨hS.out.inv.call hi9, hS.out.s2.mono hi9.le, hs9⟩⟩
      case measure =>
        rw [hme.out, natAt_I hi9.fz hs9 h3]
        exact hmod
end Go.Proofs.YtafcecgcmaoakaaDoor
