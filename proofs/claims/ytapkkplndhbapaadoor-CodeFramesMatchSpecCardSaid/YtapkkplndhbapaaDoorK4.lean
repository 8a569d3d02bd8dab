/- The walks of up and measure. Conditions: the tree is in memory as told. -/
import Derived.Test.YtapkkplndhbapaaDoorK3
namespace Go.Proofs.YtapkkplndhbapaaDoor
open Go.RowKit
set_option linter.unusedVariables false

def OwnPost (w0 : World) (φ0 : Phi) (E : TypeId) (xs : List Int) (e : Ending) (w' : World) : Prop :=
  ∃ a cap φ', e = .returned (.slice a xs.length cap) ∧ Inv w0.heap.size w0 φ0 φ' w' ∧ Own w0.heap.size φ' w' E a cap xs
/-- What 'at' answers for a frame. -/
def atF (l : List Nod) (c : Int) : Option Int := (ix l c).map (fun i : Nat => (i : Int))
theorem atF_isSome (l : List Nod) (k : Int) : (atF l k).isSome = (ix l k).isSome := by unfold atF; simp

theorem lvl_of {l : List Nod} {c : Int} {m : Nat} (h : lvA l l.length c = some m) : lvl l c = m := by rw [lvl, h]; rfl
theorem atF_some {l : List Nod} {c : Int} {i : Nat} (h : ix l c = some i) : atF l c = some (i : Int) := by rw [atF, h]; rfl
theorem TrOk.lv {l : List Nod} {n : Nat} (h : TrOk l n) {c : Int} (hc : c = 0 ∨ (ix l c).isSome = true) : ∃ m, lvA l n c = some m ∧ m ≤ 8 := by
  rcases hc with rfl | hc
  · exact ⟨0, lvA_zero _ _, by omega⟩
  · obtain ⟨i, hi, he, _⟩ := h.up hc
    rw [← he]; exact h.lev i hi

set_option maxHeartbeats 400000 in
theorem up_any {w : World} {bt : Nat} {a : Option Addr} {c n m1 m2 : Nat} {f2 : Int → Option Int} {l : List Nod} {φ : Phi} (hφ : Fz φ w) (s : SlV φ a c l) (ht : TreeW w bt a c n m1 m2 (atF l) f2) (hok : Hid (TrOk l n)) (k : Int) (hk : k = 0 ∨ (ix l k).isSome = true) :
    Calls Tryd.prog 31 #[.pointer (some ⟨bt, 0, none⟩), .int .i64 k] w (OwnPost w φ 3 (upL l k)) := by
  have hn : Hid (l.length = n) := Lib.hid hok.out.len
  have hk := Lib.hid hk
  have HT := Lib.hid ht
  clear ht
  go_enter Tryd.func31, Tryd.ntmps31
  go_wp2
  go_loopw [1, 5] (fun cv o wr => ∃ (cur : Int) (pre : List Int) (m : Nat) (a' : Option Addr) (cap' : Nat), cv = .int .i64 cur ∧ o = .slice a' pre.length cap' ∧ Hid (cur = 0 ∨ (ix l cur).isSome = true) ∧ Hid (lvA l n cur = some m) ∧ Hid (upL l k = pre ++ upA l m cur) ∧ pre.length + m ≤ 8 ∧ Inv w.heap.size w φ φ wr ∧ Own w.heap.size φ wr 3 a' cap' pre) (fun cv _ _ => lvl l (intOf cv))
  case atStart =>
    obtain ⟨m, hm, hm8⟩ := hok.out.lv hk.out
    exact ⟨k, [], m, none, 0, rfl, rfl, hk, Lib.hid hm, Lib.hid (by rw [upL, lvl_of (by rw [hn.out]; exact hm)]; rfl), by simpa using hm8, Inv.start hφ, Own.nil _ _ _ _⟩
  case round =>
    obtain ⟨cur, pre, m, a', cap', rfl, rfl, hcur, hm, hup, hlen, hi, hown⟩ := hrel
    have HT2 := Lib.hid (HT.out.callB hi.bel)
    have e0 := HT2.out.blk.cell 0
    have e1 := HT2.out.blk.cell 1
    simp at e0 e1
    by_cases h0 : cur = 0
    · have hz : ((cur : Int) != 0) = false := by simp [h0]
      have hup2 : Hid (upL l k = pre) := Lib.hid (by
        have : m = 0 := by have := hm.out; rw [h0, lvA_zero] at this; cases this; rfl
        rw [hup.out, this]; simp [upA])
      clear h0
      go_wp2
      go_ret
      rw [hup2.out]
      exact ⟨a', cap', φ, rfl, hi, hown⟩
    · have hz : ((cur : Int) != 0) = true := by simp [h0]
      have H0 := Lib.hid h0
      clear h0
      obtain ⟨i, hi1, hi2, hi3, hi4, hi5⟩ := hok.out.up (hcur.out.resolve_left H0.out)
      obtain ⟨m', rfl⟩ := lvA_pos hm.out H0.out
      have hm' := Lib.hid (lvA_step hm.out).2
      have hix : Hid (atF l cur = some (i : Int)) := Lib.hid (by
        have := hok.out.ix_of hi1
        rw [hi2] at this
        exact atF_some this)
      replace hi4 := Lib.hid hi4
      replace hi5 := Lib.hid hi5
      clear hi2 hi3
      obtain ⟨b, off, rfl, f⟩ := s.nodesD hn hi1
      have hin : (i : Int) < n := by omega
      have c2 : Hid (∀ W, Fz φ W → W.cell? ⟨b, off + i * 3 + 1, none⟩ = some (.int .i64 (parC l cur))) := Lib.hid (fun W hW => by rw [hi4.out]; exact (f i hi1 W hW).2.2.1)
      clear f
      have hlv : Hid (lvl l cur = m' + 1) := Lib.hid (lvl_of (by rw [hn.out]; exact hm.out))
      have hlv2 : Hid (lvl l (parC l cur) = m') := Lib.hid (lvl_of (by rw [hn.out]; exact hm'.out))
      have hup2 : Hid (upL l k = (pre ++ [cur]) ++ upA l m' (parC l cur)) := Lib.hid (by rw [hup.out, upA]; simp)
      generalize parC l cur = p at *
      go_wp2_with (at_builtin; refine wpList_app1 (α := Int) rfl _ _ 27 rfl slI hi a' cap' _ hown _ _ cur rfl rfl 1 rfl (by omega) ?_; intro a2 cap2 w2 hi2 hown2 hgr)
      clear e0 e1
      have HT3 := Lib.hid (HT.out.callB hi2.bel)
      have e0 := HT3.out.blk.cell 0
      have e1 := HT3.out.blk.cell 1
      simp at e0 e1
      have hl : ∀ q, (Instr.lookup 79 (.map (some m1)) (.int .i64 cur) false).run Tryd.prog (w2.drewN q) = .ok (.int .i64 (i : Int)) (w2.drewN q) := fun q => by
        have := (HT3.out.at_.drewN q).look_no cur
        rw [hix.out] at this
        exact this
      have c1 := c2.out w2 hi2.fz
      have H2 := Lib.hid hi2
      have O2 := Lib.hid hown2
      clear hi2 hown2 hi hown hgr
      go_quiet (fail)
      go_wp2
      go_roundw
      case rel => exact ⟨p, pre ++ [cur], m', a2, cap2, rfl, by simp, hi5, hm', hup2, by simp; omega, H2.out.drewN _, O2.out.drewN _⟩
      case measure => show lvl l p < lvl l cur; rw [hlv.out, hlv2.out]; omega
end Go.Proofs.YtapkkplndhbapaaDoor
