/- The walk of treeOf. Conditions: the nodes are in memory as told. -/
import Derived.Test.YtapkkplndhbapaaDoorK5
namespace Go.Proofs.YtapkkplndhbapaaDoor
open Go.RowKit
set_option linter.unusedVariables false

def atK (l : List Nod) (k : Nat) : Int → Option Int := fun c => (ixTo l c k).map (fun i : Nat => (i : Int))
def lvK (l : List Nod) (k : Nat) : Int → Option Int := fun c => if c = 0 then some 0 else if (ixTo l c k).isSome = true then (lvA l l.length c).map (fun i : Nat => (i : Int)) else none
def lvF (l : List Nod) : Int → Option Int := lvK l l.length
theorem atK_zero (l : List Nod) : atK l 0 = fun _ => none := rfl
theorem atK_step (l : List Nod) (k : Nat) (hf : ixTo l (cod l k) k = none) : updF (atK l k) (cod l k) k = atK l (k + 1) := by
  funext c
  unfold updF atK
  by_cases h : c = cod l k
  · subst h; rw [if_pos rfl, ixTo, if_pos rfl]; rfl
  · rw [if_neg h, ixTo, if_neg (fun e => h e.symm)]
theorem lvK_zero (l : List Nod) : lvK l 0 = updF (fun _ => none) 0 0 := by
  funext c; unfold lvK updF; simp [ixTo]
theorem lvK_step (l : List Nod) (k : Nat) (h0 : cod l k ≠ 0) {m : Nat} (hm : lvA l l.length (cod l k) = some m) : updF (lvK l k) (cod l k) m = lvK l (k + 1) := by
  funext c
  unfold updF lvK
  by_cases h : c = cod l k
  · subst h; rw [if_pos rfl, if_neg h0, ixTo, if_pos rfl, hm]; simp
  · rw [if_neg h, ixTo, if_neg (fun e : cod l k = c => h e.symm)]
theorem lvF_of {l : List Nod} {n : Nat} (h : FrOk l n) {i m : Nat} (hi : i < n) (hm : lvA l n (cod l i) = some m) : lvF l (cod l i) = some (m : Int) := by
  have h0 := (h.rng i hi).1
  have hx := h.ix_of hi
  unfold ix at hx
  unfold lvF lvK
  rw [if_neg (by omega), hx, h.len, hm]; rfl

structure TSt (w0 : World) (bt : Nat) (a : Option Addr) (c n m1 m2 : Nat) (f1 f2 : Int → Option Int) (wr : World) : Prop where
  bel : Below w0.heap.size w0 wr
  tree : TreeW wr bt a c n m1 m2 f1 f2
  lo : w0.heap.size ≤ m1 ∧ w0.heap.size ≤ m2
  ne : bt ≠ m1 ∧ bt ≠ m2 ∧ m1 ≠ m2
section
variable {w0 wr w' : World} {bt : Nat} {a : Option Addr} {c n m1 m2 : Nat} {f1 f2 g : Int → Option Int}
theorem TSt.callB (h : Hid (TSt w0 bt a c n m1 m2 f1 f2 wr)) (hb : Below wr.heap.size wr w') : Hid (TSt w0 bt a c n m1 m2 f1 f2 w') :=
  Lib.hid ⟨h.out.bel.trans (hb.mono h.out.bel.size), h.out.tree.callB hb, h.out.lo, h.out.ne⟩
theorem TSt.alloc (h : Hid (TSt w0 bt a c n m1 m2 f1 f2 wr)) (o : Obj) : Hid (TSt w0 bt a c n m1 m2 f1 f2 (wr.alloc o)) := TSt.callB h ((Below.refl _ _).alloc (Nat.le_refl _) o)
theorem TSt.drewN (h : Hid (TSt w0 bt a c n m1 m2 f1 f2 wr)) (q : Nat) : Hid (TSt w0 bt a c n m1 m2 f1 f2 (wr.drewN q)) := TSt.callB h (bdrewN (Below.refl _ _) q)
theorem MapW.grown {r r' : Nat} (h : MapW wr r g) (hg : wr.grownBy w' (some r')) (hne : r ≠ r') : MapW w' r g := by
  obtain ⟨o, M, h1, h2⟩ := id h
  exact ⟨o, M, (hg.block r h.lt (fun e => hne (by cases e; rfl))).trans h1, h2⟩
theorem Blk.grown {g r' : Nat} {cs : Array Value} {T : TypeId} (h : Blk wr g cs T) (hg : wr.grownBy w' (some r')) (hne : g ≠ r') : Blk w' g cs T :=
  (hg.block g h.lt (fun e => hne (by cases e; rfl))).trans h
theorem Below_grown {r : Nat} (h : Below w0.heap.size w0 wr) (hg : wr.grownBy w' (some r)) (hr : w0.heap.size ≤ r) : Below w0.heap.size w0 w' :=
  ⟨hg.os.trans h.os, hg.tape.trans h.tape, hg.output.trans h.output, Nat.le_trans h.size hg.size, fun k hk => (hg.block k (Nat.lt_of_lt_of_le hk h.size) (fun e => by cases e; omega)).trans (h.block k hk)⟩
theorem TSt.put1 (h : Hid (TSt w0 bt a c n m1 m2 f1 f2 wr)) (hg : wr.grownBy w' (some m1)) (hm : MapW w' m1 g) : Hid (TSt w0 bt a c n m1 m2 g f2 w') :=
  Lib.hid ⟨Below_grown h.out.bel hg h.out.lo.1, ⟨Blk.grown h.out.tree.blk hg h.out.ne.1, hm, h.out.tree.lev.grown hg h.out.ne.2.2.symm⟩, h.out.lo, h.out.ne⟩
theorem TSt.put2 (h : Hid (TSt w0 bt a c n m1 m2 f1 f2 wr)) (hg : wr.grownBy w' (some m2)) (hm : MapW w' m2 g) : Hid (TSt w0 bt a c n m1 m2 f1 g w') :=
  Lib.hid ⟨Below_grown h.out.bel hg h.out.lo.2, ⟨Blk.grown h.out.tree.blk hg h.out.ne.2.1, h.out.tree.at_.grown hg h.out.ne.2.2, hm⟩, h.out.lo, h.out.ne⟩
end

theorem treeF_5 {l : List Nod} {n k : Nat} (h0 : nodesF l = 0) (hn : l.length = n) (hz : ∀ i, i < k → par5 l i = 0) (hk : k < n) (hf : par5 l k = 5) : treeF l = 5 := by
  rw [treeF, if_neg (by simp [h0]), hn, if_pos (by rw [scan_stop hz hk (by rw [hf]; decide), hf]; decide)]
theorem treeF_18 {l : List Nod} {n k : Nat} (h0 : nodesF l = 0) (hn : l.length = n) (h5 : ∀ i, i < n → par5 l i = 0) (hz : ∀ i, i < k → cyc18 l i = 0) (hk : k < n) (hf : cyc18 l k = 18) : treeF l = 18 := by
  rw [treeF, if_neg (by simp [h0]), hn, if_neg (by simp [scan_zero _ _ h5]), if_pos (by rw [scan_stop hz hk (by rw [hf]; decide), hf]; decide)]
theorem treeF_2 {l : List Nod} {n k : Nat} (h0 : nodesF l = 0) (hn : l.length = n) (h5 : ∀ i, i < n → par5 l i = 0) (h18 : ∀ i, i < n → cyc18 l i = 0) (hz : ∀ i, i < k → deep2 l i = 0) (hk : k < n) (hf : deep2 l k = 2) : treeF l = 2 := by
  rw [treeF, if_neg (by simp [h0]), hn, if_neg (by simp [scan_zero _ _ h5]), if_neg (by simp [scan_zero _ _ h18]), if_pos (by rw [scan_stop hz hk (by rw [hf]; decide), hf]; decide)]
theorem treeF_0 {l : List Nod} {n : Nat} (h0 : nodesF l = 0) (hn : l.length = n) (h5 : ∀ i, i < n → par5 l i = 0) (h18 : ∀ i, i < n → cyc18 l i = 0) (hz : ∀ i, i < n → deep2 l i = 0) : treeF l = 0 := by
  rw [treeF, if_neg (by simp [h0]), hn, if_neg (by simp [scan_zero _ _ h5]), if_neg (by simp [scan_zero _ _ h18]), if_neg (by simp [scan_zero _ _ hz])]
theorem par_of {l : List Nod} {n : Nat} (h : FrOk l n) (h5 : ∀ i, i < n → par5 l i = 0) : ParOk l n :=
  ⟨h, fun i hi hp => by
    have := h5 i hi
    unfold par5 at this
    cases hx : ix l (par0 l i) with
    | none => rw [if_pos ⟨hp, hx⟩] at this; cases this
    | some j => rfl⟩
theorem cyc_of {l : List Nod} {n i : Nat} (hn : l.length = n) (h : cyc18 l i = 0) : ∃ m, lvA l n (cod l i) = some m := by
  unfold cyc18 at h
  rw [hn] at h
  cases hx : lvA l n (cod l i) with
  | none => rw [if_pos hx] at h; cases h
  | some m => exact ⟨m, rfl⟩
theorem tr_of {l : List Nod} {n : Nat} (h : ParOk l n) (h18 : ∀ i, i < n → cyc18 l i = 0) (h2 : ∀ i, i < n → deep2 l i = 0) : TrOk l n :=
  ⟨h.toFrOk, h.par, fun i hi => by
    obtain ⟨m, hm⟩ := cyc_of h.len (h18 i hi)
    refine ⟨m, hm, ?_⟩
    have := h2 i hi
    unfold deep2 at this
    rw [lvl_of (by rw [h.len]; exact hm)] at this
    by_cases h8 : 8 < m
    · rw [if_pos h8] at this; cases this
    · omega⟩

def TreePost (l : List Nod) (n : Nat) (a : Option Addr) (c : Nat) (w : World) (e : Ending) (w' : World) : Prop :=
  Below w.heap.size w w' ∧ ((treeF l ≠ 0 ∧ e = .returned (.tuple #[.pointer none, .int .i64 (treeF l)])) ∨ (treeF l = 0 ∧ TrOk l n ∧ ∃ bt m1 m2, e = .returned (.tuple #[.pointer (some ⟨bt, 0, none⟩), .int .i64 0]) ∧ TreeW w' bt a c n m1 m2 (atF l) (lvF l)))

set_option maxRecDepth 100000 in
set_option maxHeartbeats 1000000 in
theorem treeOf_any {w : World} {a : Option Addr} {c n : Nat} {l : List Nod} {φ : Phi} (hφ : Fz φ w) (s : SlV φ a c l) (hn : Hid (l.length = n)) (hm : n ≤ 9223372036854775807) :
    Calls Tryd.prog 20 #[.slice a n c] w (TreePost l n a c w) := by
  obtain ⟨q, hq⟩ : ∃ q, Hid (nodesF l = q) := ⟨_, Lib.hid rfl⟩
  have hmm := @run_makeMap Tryd.prog
  by_cases h0 : q = 0
  · subst h0
    have hok : FrOk l n := by have := nodesF_zero hq.out; rwa [hn.out] at this
    go_enter Tryd.func20, Tryd.ntmps20
    go_wp2_with fail
    refine (nodesFault_any n a c l w φ hφ s hn hm).mono ?_
    rintro e w1 ⟨rfl, hb⟩
    rw [hq.out]
    have HOK := Lib.hid hok
    have hT : Hid (∃ o1, (Instr.mapUpdate 79 (.map (some (w1.heap.size + 1))) (.int .i64 0) (.int .i64 0)).run Tryd.prog ((w1.alloc (.map #[] 0)).alloc (.map #[] 0)) = .ok () (setMap ((w1.alloc (.map #[] 0)).alloc (.map #[] 0)) (w1.heap.size + 1) o1) ∧
        TSt w (w1.heap.size + 2) a c n w1.heap.size (w1.heap.size + 1) (atK l 0) (lvK l 0) ((setMap ((w1.alloc (.map #[] 0)).alloc (.map #[] 0)) (w1.heap.size + 1) o1).alloc (.cells #[.slice a n c, .map (some w1.heap.size), .map (some (w1.heap.size + 1))] 87))) := by
      have hw2 : ((w1.alloc (.map #[] 0)).alloc (.map #[] 0)).heap.size = w1.heap.size + 2 := by simp
      have h1' : MapW (w1.alloc (.map #[] 0)) w1.heap.size (fun _ => none) := ⟨_, [], heap_alloc_new w1 _, MapO.empty, fun _ => rfl⟩
      have h1 := h1'.callB ((Below.refl _ _).alloc (Nat.le_refl _) (.map #[] 0))
      have h2 : MapW ((w1.alloc (.map #[] 0)).alloc (.map #[] 0)) (w1.heap.size + 1) (fun _ => none) := ⟨_, [], by
        rw [show w1.heap.size + 1 = (w1.alloc (.map #[] 0)).heap.size by simp]
        exact heap_alloc_new _ _, MapO.empty, fun _ => rfl⟩
      obtain ⟨o, hp, hw⟩ := h2.put 0 0
      have hb2 : Below w.heap.size w ((w1.alloc (.map #[] 0)).alloc (.map #[] 0)) := (hb.alloc hb.size _).alloc (by have := hb.size; simp; omega) _
      have hg := setMap_grown ((w1.alloc (.map #[] 0)).alloc (.map #[] 0)) (w1.heap.size + 1) o
      have hs := setMap_size ((w1.alloc (.map #[] 0)).alloc (.map #[] 0)) (w1.heap.size + 1) o
      have hm2 := hw _ (setMap_same o (by rw [hw2]; omega))
      have hm1 := h1.grown hg (by omega)
      have hb3 := Below_grown hb2 hg (by have := hb.size; omega)
      have hbl := Blk.new (setMap ((w1.alloc (.map #[] 0)).alloc (.map #[] 0)) (w1.heap.size + 1) o) #[.slice a n c, .map (some w1.heap.size), .map (some (w1.heap.size + 1))] 87
      rw [hs, hw2] at hbl
      refine Lib.hid ⟨o, hp 0, hb3.alloc (by rw [hs, hw2]; have := hb.size; omega) _, ⟨hbl, hm1.callB ((Below.refl _ _).alloc (Nat.le_refl _) _), ?_⟩, ⟨hb.size, by have := hb.size; omega⟩, by omega, by omega, by omega⟩
      rw [lvK_zero]
      exact hm2.callB ((Below.refl _ _).alloc (Nat.le_refl _) _)
    have HB := Lib.hid hb
    clear hb hok
    obtain ⟨o1, hput, hT⟩ := hT.out
    replace hT := Lib.hid hT
    have hss : (setMap ((w1.alloc (.map #[] 0)).alloc (.map #[] 0)) (w1.heap.size + 1) o1).heap.size = w1.heap.size + 2 := by simp [setMap_size]
    go_wp2
    clear hput hss hmm
    generalize (setMap ((w1.alloc (.map #[] 0)).alloc (.map #[] 0)) (w1.heap.size + 1) o1).alloc (.cells #[.slice a n c, .map (some w1.heap.size), .map (some (w1.heap.size + 1))] 87) = wg at *
    generalize w1.heap.size + 2 = bt at *
    generalize w1.heap.size + 1 = m2 at *
    generalize w1.heap.size = m1 at *
    clear HB
    have hok0 : Hid (l.length = n) := Lib.hid HOK.out.len
    go_loopw [29] (fun i wr => ∃ k : Nat, k ≤ n ∧ i = .int .i64 k ∧ Hid (TSt w bt a c n m1 m2 (atK l k) (lvK l 0) wr)) (fun i _ => n - (intOf i).toNat)
    case atStart => exact ⟨0, Nat.zero_le _, rfl, hT⟩
    case round =>
      clear hT
      obtain ⟨k, hk, rfl, hT⟩ := hrel
      by_cases hlt : k < n
      · obtain ⟨b, off, rfl, f⟩ := s.nodesD hn hlt
        have hf := hφ.below hT.out.bel
        obtain ⟨hb, c1, c2, c3⟩ := f k hlt _ hf
        have hfr : Hid (ixTo l (cod l k) k = none) := Lib.hid (by
          cases hx : ixTo l (cod l k) k with
          | none => rfl
          | some j => have := ixTo_some hx; exact absurd (HOK.out.inj j k (by omega) hlt this.2) (by omega))
        have hst : Hid (updF (atK l k) (l.getD k nod0).1 k = atK l (k + 1)) := Lib.hid (atK_step l k hfr.out)
        clear f hf hfr
        generalize (l.getD k nod0).1 = m at *
        generalize (l.getD k nod0).2.1 = pa at *
        generalize (l.getD k nod0).2.2 = ti at *
        have hT2 := TSt.alloc hT (.cells #[.int .i64 m, .int .i64 pa, .string ti] 38)
        have e1 : (wr.alloc (.cells #[.int .i64 m, .int .i64 pa, .string ti] 38)).cell? ⟨bt, 1, none⟩ = some (.map (some m1)) := hT2.out.tree.blk.cell 1
        have b0 : (wr.alloc (.cells #[.int .i64 m, .int .i64 pa, .string ti] 38)).cell? ⟨wr.heap.size, 0, none⟩ = some (.int .i64 m) := box_at 0
        have E1 := Lib.hid (And.intro e1 b0)
        clear e1 b0
        have hlt1 := Lib.hid hT2.out.tree.at_.lt
        obtain ⟨o, hp, hw⟩ := hT2.out.tree.at_.put m (k : Int)
        have HW := Lib.hid hw
        clear hw
        go_wp2
        obtain ⟨e1, b0⟩ := E1.out
        generalize wr.alloc (.cells #[.int .i64 m, .int .i64 pa, .string ti] 38) = wx at *
        have hp1 : (Instr.mapUpdate 79 (.map (some m1)) (.int .i64 m) (.int .i64 (k : Int))).run Tryd.prog wx.drew = .ok () (setMap wx.drew m1 o) := hp 1
        go_still_tail 7, (by kernel_rfl)
        go_wp2
        go_roundw
        case rel =>
          refine ⟨k + 1, by omega, by go_num, ?_⟩
          have hd := TSt.drewN hT2 1
          rw [← hst.out]
          exact TSt.put1 hd (setMap_grown _ m1 o) (HW.out _ (setMap_same o hlt1.out))
        case measure => simp [intOf]; omega
      · obtain rfl : k = n := by omega
        clear hlt hk
        rename Nat => n
        go_wp2
        have hAt : atK l n = atF l := by rw [← HOK.out.len]; rfl
        rw [hAt] at hT
        clear hAt
        go_loopw [44] (fun i wr => ∃ k : Nat, k ≤ n ∧ i = .int .i64 k ∧ Hid (∀ i, i < k → par5 l i = 0) ∧ Hid (TSt w bt a c n m1 m2 (atF l) (lvK l 0) wr)) (fun i _ => n - (intOf i).toNat)
        case atStart => exact ⟨0, Nat.zero_le _, rfl, none_yet _, hT⟩
        case round =>
          clear hT
          obtain ⟨k, hk, rfl, hpz, hT⟩ := hrel
          by_cases hlt : k < n
          · obtain ⟨b, off, rfl, f⟩ := s.nodesD hn hlt
            have hf := hφ.below hT.out.bel
            obtain ⟨hb, c1, c2, c3⟩ := f k hlt _ hf
            clear f hf
            have hat : Hid (atF l (l.getD k nod0).2.1 = (ix l (par0 l k)).map (fun i : Nat => (i : Int))) := Lib.hid rfl
            have hpa : Hid (par0 l k = (l.getD k nod0).2.1) := Lib.hid rfl
            generalize (l.getD k nod0).1 = m at *
            generalize (l.getD k nod0).2.1 = pa at *
            generalize (l.getD k nod0).2.2 = ti at *
            have hT2 := TSt.alloc hT (.cells #[.int .i64 m, .int .i64 pa, .string ti] 38)
            have e1 : (wr.alloc (.cells #[.int .i64 m, .int .i64 pa, .string ti] 38)).cell? ⟨bt, 1, none⟩ = some (.map (some m1)) := hT2.out.tree.blk.cell 1
            have b0 : (wr.alloc (.cells #[.int .i64 m, .int .i64 pa, .string ti] 38)).cell? ⟨wr.heap.size, 1, none⟩ = some (.int .i64 pa) := box_at 1
            have E1 := Lib.hid (And.intro e1 b0)
            clear e1 b0
            obtain ⟨r, hr⟩ : ∃ r, Hid (atF l pa = r) := ⟨_, Lib.hid rfl⟩
            have hl : Hid (∀ q, (Instr.lookup 79 (.map (some m1)) (.int .i64 pa) true).run Tryd.prog ((wr.alloc (.cells #[.int .i64 m, .int .i64 pa, .string ti] 38)).drewN q) = .ok (.tuple #[.int .i64 (r.getD 0), .bool r.isSome]) ((wr.alloc (.cells #[.int .i64 m, .int .i64 pa, .string ti] 38)).drewN q)) := Lib.hid (fun q => by rw [← hr.out]; exact (hT2.out.tree.at_.drewN q).look_ok pa)
            go_wp2
            obtain ⟨e1, b0⟩ := E1.out
            replace hl := hl.out
            generalize wr.alloc (.cells #[.int .i64 m, .int .i64 pa, .string ti] 38) = wx at *
            go_quiet (fail)
            clear hl
            by_cases hp0 : pa = 0
            · have hg : ((pa : Int) != 0) = false := by simp [hp0]
              have HP0 := Lib.hid hp0
              clear hp0
              go_wp2
              go_roundw
              case rel => exact ⟨k + 1, by omega, by go_num, next_ok hpz (by rw [par5, hpa.out, if_neg (fun h => h.1 HP0.out)]), TSt.drewN hT2 _⟩
              case measure => simp [intOf]; omega
            have hg : ((pa : Int) != 0) = true := by simp [hp0]
            have HP0 := Lib.hid hp0
            clear hp0
            cases r with
            | none =>
              have hix : Hid (ix l pa = none) := Lib.hid (by
                have h1 := hr.out
                unfold atF at h1
                cases hx : ix l pa with
                | none => rfl
                | some j => rw [hx] at h1; cases h1)
              go_wp2
              go_ret2
              have h5 := treeF_5 hq.out hok0.out hpz.out hlt (by rw [par5, hpa.out, if_pos ⟨HP0.out, hix.out⟩])
              exact ⟨(TSt.drewN hT2 _).out.bel, .inl ⟨by rw [h5]; decide, by rw [h5]; rfl⟩⟩
            | some j =>
              have hix : Hid (ix l pa ≠ none) := Lib.hid (fun hx => by
                have h1 := hr.out
                unfold atF at h1
                rw [hx] at h1; cases h1)
              go_wp2
              go_roundw
              case rel => exact ⟨k + 1, by omega, by go_num, next_ok hpz (by rw [par5, hpa.out, if_neg (fun h => hix.out h.2)]), TSt.drewN hT2 _⟩
              case measure => simp [intOf]; omega
          · obtain rfl : k = n := by omega
            clear hlt hk
            rename Nat => n
            have HP := Lib.hid (par_of HOK.out hpz.out)
            go_wp2
            go_loopw [68] (fun i wr => ∃ k : Nat, k ≤ n ∧ i = .int .i64 k ∧ Hid (∀ i, i < k → cyc18 l i = 0) ∧ Hid (TSt w bt a c n m1 m2 (atF l) (lvK l k) wr)) (fun i _ => n - (intOf i).toNat)
            case atStart => exact ⟨0, Nat.zero_le _, rfl, none_yet _, hT⟩
            case round =>
              clear hT
              obtain ⟨k, hk, rfl, hcz, hT⟩ := hrel
              by_cases hlt : k < n
              · obtain ⟨b, off, rfl, f⟩ := s.nodesD hn hlt
                have hf := hφ.below hT.out.bel
                obtain ⟨hb, c1, c2, c3⟩ := f k hlt _ hf
                clear f hf
                have hme : Hid (cod l k = (l.getD k nod0).1) := Lib.hid rfl
                generalize (l.getD k nod0).1 = m at *
                generalize (l.getD k nod0).2.1 = pa at *
                generalize (l.getD k nod0).2.2 = ti at *
                have hT2 := TSt.alloc hT (.cells #[.int .i64 m, .int .i64 pa, .string ti] 38)
                have hM : Hid (∀ (hk : m = 0 ∨ (ix l m).isSome = true), Calls Tryd.prog 44 #[.pointer (some ⟨bt, 0, none⟩), .int .i64 m] (wr.alloc (.cells #[.int .i64 m, .int .i64 pa, .string ti] 38)) (MeasPost l n m m2 (lvK l k) (wr.alloc (.cells #[.int .i64 m, .int .i64 pa, .string ti] 38)))) := Lib.hid (measure_any (hφ.below hT2.out.bel) s hT2.out.tree HP m)
                have hnz : Hid (m ≠ 0 ∧ (ix l m).isSome = true) := Lib.hid (by
                  have h1 := (HOK.out.rng k hlt).1
                  have h2 := HOK.out.ix_of hlt
                  rw [hme.out] at h1 h2
                  exact ⟨by omega, by rw [h2]; rfl⟩)
                go_wp2_with fail
                refine (hM.out (.inr hnz.out.2)).mono ?_
                rintro e w' (⟨j, hj, rfl, hg, hw⟩ | ⟨hj, rfl, q2, rfl⟩)
                · have hT3 := TSt.put2 hT2 hg hw
                  rw [← hme.out, lvK_step l k (by rw [hme.out]; exact hnz.out.1) (by rw [hok0.out, hme.out]; exact hj)] at hT3
                  have HJ := Lib.hid hj
                  clear hg hw hj
                  go_wp2
                  go_roundw
                  case rel => exact ⟨k + 1, by omega, by go_num, next_ok hcz (by rw [cyc18, hok0.out, hme.out, HJ.out]; rfl), hT3⟩
                  case measure => simp [intOf]; omega
                · have HJ := Lib.hid hj
                  clear hj
                  go_wp2
                  go_ret2
                  have h5 := treeF_18 hq.out hok0.out hpz.out hcz.out hlt (by rw [cyc18, hok0.out, hme.out, HJ.out]; rfl)
                  exact ⟨(TSt.drewN hT2 _).out.bel, .inl ⟨by rw [h5]; decide, by rw [h5]; rfl⟩⟩
              · obtain rfl : k = n := by omega
                clear hlt hk
                rename Nat => n
                go_wp2
                have hLv : lvK l n = lvF l := by rw [← HOK.out.len]; rfl
                rw [hLv] at hT
                clear hLv
                go_loopw [80] (fun i wr => ∃ k : Nat, k ≤ n ∧ i = .int .i64 k ∧ Hid (∀ i, i < k → deep2 l i = 0) ∧ Hid (TSt w bt a c n m1 m2 (atF l) (lvF l) wr)) (fun i _ => n - (intOf i).toNat)
                case atStart => exact ⟨0, Nat.zero_le _, rfl, none_yet _, hT⟩
                case round =>
                  clear hT
                  obtain ⟨k, hk, rfl, hdz, hT⟩ := hrel
                  by_cases hlt : k < n
                  · obtain ⟨b, off, rfl, f⟩ := s.nodesD hn hlt
                    have hf := hφ.below hT.out.bel
                    obtain ⟨hb, c1, c2, c3⟩ := f k hlt _ hf
                    clear f hf
                    obtain ⟨j, hj⟩ := cyc_of hok0.out (hcz.out k hlt)
                    have hlf : Hid (lvF l (l.getD k nod0).1 = some (j : Int)) := Lib.hid (lvF_of HOK.out hlt hj)
                    have hlv : Hid (lvl l (cod l k) = j) := Lib.hid (lvl_of (by rw [hok0.out]; exact hj))
                    clear hj
                    generalize (l.getD k nod0).1 = m at *
                    generalize (l.getD k nod0).2.1 = pa at *
                    generalize (l.getD k nod0).2.2 = ti at *
                    have hT2 := TSt.alloc hT (.cells #[.int .i64 m, .int .i64 pa, .string ti] 38)
                    have e1 : (wr.alloc (.cells #[.int .i64 m, .int .i64 pa, .string ti] 38)).cell? ⟨bt, 2, none⟩ = some (.map (some m2)) := hT2.out.tree.blk.cell 2
                    have b0 : (wr.alloc (.cells #[.int .i64 m, .int .i64 pa, .string ti] 38)).cell? ⟨wr.heap.size, 0, none⟩ = some (.int .i64 m) := box_at 0
                    have E1 := Lib.hid (And.intro e1 b0)
                    clear e1 b0
                    have hl : Hid (∀ q, (Instr.lookup 79 (.map (some m2)) (.int .i64 m) false).run Tryd.prog ((wr.alloc (.cells #[.int .i64 m, .int .i64 pa, .string ti] 38)).drewN q) = .ok (.int .i64 (j : Int)) ((wr.alloc (.cells #[.int .i64 m, .int .i64 pa, .string ti] 38)).drewN q)) := Lib.hid (fun q => by
                      have := (hT2.out.tree.lev.drewN q).look_no m
                      rwa [hlf.out] at this)
                    go_wp2
                    obtain ⟨e1, b0⟩ := E1.out
                    replace hl := hl.out
                    generalize wr.alloc (.cells #[.int .i64 m, .int .i64 pa, .string ti] 38) = wx at *
                    go_quiet (fail)
                    clear hl
                    by_cases h8 : 8 < j
                    · go_wp2
                      go_ret2
                      have h5 := treeF_2 hq.out hok0.out hpz.out hcz.out hdz.out hlt (by rw [deep2, hlv.out, if_pos h8])
                      exact ⟨(TSt.drewN hT2 _).out.bel, .inl ⟨by rw [h5]; decide, by rw [h5]; rfl⟩⟩
                    · go_wp2
                      go_roundw
                      case rel => exact ⟨k + 1, by omega, by go_num, next_ok hdz (by rw [deep2, hlv.out, if_neg h8]), TSt.drewN hT2 _⟩
                      case measure => simp [intOf]; omega
                  · obtain rfl : k = n := by omega
                    go_wp2
                    go_ret2
                    exact ⟨hT.out.bel, .inr ⟨treeF_0 hq.out hok0.out hpz.out hcz.out hdz.out, tr_of HP.out hcz.out hdz.out, bt, m1, m2, rfl, hT.out.tree⟩⟩
  · have hz : ((q : Int) != 0) = true := by simp [h0]
    have H0 := Lib.hid h0
    clear h0
    go_enter Tryd.func20, Tryd.ntmps20
    go_wp2_with fail
    refine (nodesFault_any n a c l w φ hφ s hn hm).mono ?_
    rintro e w1 ⟨rfl, hb⟩
    rw [hq.out]
    have HB := Lib.hid hb
    clear hb
    go_wp2
    go_ret2
    have : treeF l = q := by rw [treeF, hq.out, if_pos H0.out]
    exact ⟨HB.out, .inl ⟨by rw [this]; exact H0.out, by rw [this]; rfl⟩⟩
theorem treeF_zero {l : List Nod} (h : treeF l = 0) : TrOk l l.length := by
  unfold treeF at h
  split at h
  · next a => exact absurd h a
  · next a =>
    split at h
    · cases h
    · next b =>
      split at h
      · cases h
      · next c =>
        split at h
        · cases h
        · next d =>
          have a' : nodesF l = 0 := by simpa using a
          have b' : scan (par5 l) l.length = 0 := by simpa using b
          have c' : scan (cyc18 l) l.length = 0 := by simpa using c
          have d' : scan (deep2 l) l.length = 0 := by simpa using d
          exact tr_of (par_of (nodesF_zero a') (scan_all _ b')) (scan_all _ c') (scan_all _ d')
end Go.Proofs.YtapkkplndhbapaaDoor
