/- The walk of measure. Conditions: the tree is in memory as told. -/
import Derived.Test.YtapkkplndhbapaaDoorK4
import Derived.StillTailTactics
namespace Go.Proofs.YtapkkplndhbapaaDoor
open Go.RowKit
set_option linter.unusedVariables false

structure ParOk (l : List Nod) (n : Nat) : Prop extends FrOk l n where
  par : ∀ i, i < n → par0 l i ≠ 0 → (ix l (par0 l i)).isSome = true
theorem ParOk.up {l : List Nod} {n : Nat} (h : ParOk l n) {c : Int} (hc : (ix l c).isSome = true) : ∃ i, i < n ∧ cod l i = c ∧ atV l c = i ∧ parC l c = par0 l i ∧ (parC l c = 0 ∨ (ix l (parC l c)).isSome = true) := by
  obtain ⟨i, hi⟩ := Option.isSome_iff_exists.1 hc
  obtain ⟨h1, h2⟩ := h.ix_some hi
  have h3 : atV l c = i := by rw [atV, hi]; rfl
  refine ⟨i, h1, h2, h3, by rw [parC, h3], ?_⟩
  by_cases hp : parC l c = 0
  · exact .inl hp
  · rw [parC, h3] at hp ⊢
    exact .inr (h.par i h1 hp)
def updF (f : Int → Option Int) (k x : Int) : Int → Option Int := fun k' => if k' = k then some x else f k'
def MeasPost (l : List Nod) (n : Nat) (k : Int) (m2 : Nat) (f2 : Int → Option Int) (w : World) (e : Ending) (w' : World) : Prop :=
  (∃ m : Nat, lvA l n k = some m ∧ e = .returned (.bool true) ∧ w.grownBy w' (some m2) ∧ MapW w' m2 (updF f2 k m)) ∨ (lvA l n k = none ∧ e = .returned (.bool false) ∧ ∃ q, w' = w.drewN q)
theorem lvA_next {l : List Nod} {n j : Nat} {k cur : Int} (h : lvA l n k = (lvA l (n - j) cur).map (· + j)) (h0 : cur ≠ 0) (hj : j + 1 ≤ n) : lvA l n k = (lvA l (n - (j + 1)) (parC l cur)).map (· + (j + 1)) := by
  obtain ⟨d, hd⟩ : ∃ d, n - j = d + 1 := ⟨n - j - 1, by omega⟩
  rw [h, hd, lvA, if_neg h0, show n - (j + 1) = d by omega, Option.map_map]
  congr 1
  funext x
  simp; omega
theorem lvA_stop {l : List Nod} {n j : Nat} {k cur : Int} (h : lvA l n k = (lvA l (n - j) cur).map (· + j)) (h0 : cur ≠ 0) (hj : ¬ j + 1 ≤ n) : lvA l n k = none := by
  rw [h, show n - j = 0 by omega, lvA, if_neg h0]; rfl
theorem grown_drewN (w w' : World) (q : Nat) (r : Option Nat) (h : (w.drewN q).grownBy w' r) : w.grownBy w' r := ⟨h.os, h.tape, h.output, h.size, h.block⟩

set_option maxHeartbeats 400000 in
theorem measure_any {w : World} {bt : Nat} {a : Option Addr} {c n m1 m2 : Nat} {f2 : Int → Option Int} {l : List Nod} {φ : Phi} (hφ : Fz φ w) (s : SlV φ a c l) (ht : TreeW w bt a c n m1 m2 (atF l) f2) (hok : Hid (ParOk l n)) (k : Int) (hk : k = 0 ∨ (ix l k).isSome = true) :
    Calls Tryd.prog 44 #[.pointer (some ⟨bt, 0, none⟩), .int .i64 k] w (MeasPost l n k m2 f2 w) := by
  have hn : Hid (l.length = n) := Lib.hid hok.out.len
  have hn6 : n ≤ 600 := hok.out.pos.2
  have hk := Lib.hid hk
  have HT := Lib.hid ht
  have e0 := ht.blk.cell 0
  have e1 := ht.blk.cell 1
  have e2 := ht.blk.cell 2
  simp at e0 e1 e2
  clear ht
  go_enter Tryd.func44, Tryd.ntmps44
  go_wp2
  go_loopw [5, 6] (fun sv cv wr => ∃ (cur : Int) (j : Nat), sv = .int .i64 (j : Int) ∧ cv = .int .i64 cur ∧ Hid (cur = 0 ∨ (ix l cur).isSome = true) ∧ Hid (lvA l n k = (lvA l (n - j) cur).map (· + j)) ∧ j ≤ n ∧ ∃ q, wr = w.drewN q) (fun sv _ _ => n + 1 - (intOf sv).toNat)
  case atStart =>
    refine ⟨k, 0, rfl, rfl, hk, Lib.hid ?_, by omega, 0, rfl⟩
    simp
  case round =>
    obtain ⟨cur, j, rfl, rfl, hcur, hlv, hj, q, rfl⟩ := hrel
    by_cases h0 : cur = 0
    · have hz : ((cur : Int) != 0) = false := by simp [h0]
      have hm : lvA l n k = some j := by rw [hlv.out, h0, lvA_zero]; simp
      clear h0 hcur hlv
      obtain ⟨o, hp, hw⟩ := HT.out.lev.put k (j : Int)
      have hlt := Lib.hid HT.out.lev.lt
      go_wp2
      go_ret
      have hsz : m2 < (w.drewN q).heap.size := hlt.out
      exact .inl ⟨j, hm, rfl, grown_drewN _ _ q _ (setMap_grown _ m2 o), hw _ (setMap_same o hsz)⟩
    · have hz : ((cur : Int) != 0) = true := by simp [h0]
      have H0 := Lib.hid h0
      clear h0
      obtain ⟨i, hi1, hi2, hi3, hi4, hi5⟩ := hok.out.up (hcur.out.resolve_left H0.out)
      have hix : Hid (atF l cur = some (i : Int)) := Lib.hid (by
        have := hok.out.ix_of hi1
        rw [hi2] at this
        exact atF_some this)
      replace hi4 := Lib.hid hi4
      replace hi5 := Lib.hid hi5
      clear hi2 hi3
      obtain ⟨b, off, rfl, f⟩ := s.nodesD hn hi1
      have hin : (i : Int) < n := by omega
      have c2 : Hid (∀ W, Fz φ W → W.cell? ⟨b, off + i * 3 + 1, none⟩ = some (.int .i64 (parC l cur))) := Lib.hid (fun W hW => by rw [hi4.out]; exact (f i hi1 W hW).2.2.1)
      clear f
      have hnx := Lib.hid (fun hj => lvA_next hlv.out H0.out hj)
      have hst := Lib.hid (fun hj => lvA_stop hlv.out H0.out hj)
      clear hlv
      generalize parC l cur = p at *
      have c1 := c2.out w hφ
      have hl : ∀ q, (Instr.lookup 79 (.map (some m1)) (.int .i64 cur) false).run Tryd.prog (w.drewN q) = .ok (.int .i64 (i : Int)) (w.drewN q) := fun q => by
        have := (HT.out.at_.drewN q).look_no cur
        rw [hix.out] at this
        exact this
      have hw1 : IntKind.i64.wrap ((j : Int) + 1) = ((j + 1 : Nat) : Int) := by rw [IntWalk.i64_in _ (by omega)]; omega
      by_cases hb : j + 1 ≤ n
      · have hg : decide (((j + 1 : Nat) : Int) > (n : Int)) = false := by simp; omega
        go_wp2
        go_quiet (fail)
        go_wp2
        go_roundw
        case rel => exact ⟨p, j + 1, rfl, rfl, hi5, Lib.hid (hnx.out hb), hb, _, World.drewN_drewN ..⟩
        case measure => show n + 1 - ((j : Int) + 1).toNat < n + 1 - ((j : Int)).toNat; omega
      · have hg : decide (((j + 1 : Nat) : Int) > (n : Int)) = true := by simp; omega
        go_wp2
        go_ret
        exact .inr ⟨hst.out hb, rfl, _, rfl⟩
end Go.Proofs.YtapkkplndhbapaaDoor
