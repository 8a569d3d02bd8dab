/- The walk of the reference's CheckFrame. Conditions: none beyond what the claim form gives. -/
import Derived.Test.YtapkkplndhbapaaDoorR2
namespace Go.Proofs.YtapkkplndhbapaaDoor
open Go.RowKit
set_option linter.unusedVariables false

theorem titled_b (s : ByteArray) (w : World) (hs : s.size ≤ 1000000000) {b : Bool} (h : titleB s = b) :
    Calls Tryd.prog 26 #[.string s] w fun e w' => e = .returned (.bool b) ∧ w = w' := by rw [← h]; exact titled_any s w hs
theorem Contains_b (n : Nat) (a : Option Addr) (cap : Nat) (xs : List Int) (x : Int) (w : World) (φ : Phi) (hφ : Fz φ w) (s : SlV φ a cap xs) (hn : Hid (xs.length = n)) (hm : n ≤ 9223372036854775807) {b : Bool} (h : decide (x ∈ xs) = b) :
    Calls Tryd.prog 29 #[.slice a n cap, .int .i64 x] w fun e w' => e = .returned (.bool b) ∧ w = w' := by
  have := Contains_any n a cap xs x w φ hφ s hn hm; rwa [h] at this
section
variable {l : List Nod} {n : Nat}
/-- What the fourth and third tests of a frame ask of the list of those above. -/
theorem abv_loop (h : ParOk l n) {i : Nat} (hi : i < n) : (cyc18 l i ≠ 0 → (abvF l (cod l i)).2 = false ∧ cyc18 l i = 18) ∧ (cyc18 l i = 0 → (abvF l (cod l i)).2 = true ∧ cod l i ∉ (abvF l (cod l i)).1 ∧ (abvF l (cod l i)).1.length + 1 = lvl l (cod l i) ∧ lvl l (cod l i) ≤ n) := by
  unfold cyc18 abvF
  cases e : lvA l l.length (cod l i) with
  | none => simp
  | some m =>
    refine ⟨by simp, fun _ => ⟨rfl, ?_⟩⟩
    have e' : lvA l n (cod l i) = some m := by rw [← h.len]; exact e
    have h0 : cod l i ≠ 0 := by have := (h.rng i hi).1; omega
    obtain ⟨j, rfl⟩ := lvA_pos e' h0
    obtain ⟨e1, e2⟩ := upL_eq h.len e'
    have hnd := upA_nodup e'
    have hle := lvA_le e'
    dsimp only
    rw [e1, upA, List.nodup_cons] at *
    exact ⟨hnd.1, by rw [List.tail_cons, upA_length, e2], by omega⟩
end
theorem abv_len {l : List Nod} {n : Nat} (h : ParOk l n) (c : Int) : (abvF l c).1.length ≤ 600 := by
  unfold abvF
  split
  · next k e =>
    have h1 := lvA_le e
    have h2 := h.len
    have h3 := h.pos.2
    dsimp only
    rw [upL, lvl_of e, List.length_tail, upA_length]; omega
  · simp
theorem treeF_n {l : List Nod} {q : Int} (h : nodesF l = q) (h0 : q ≠ 0) : treeF l = q := by rw [treeF, h, if_pos h0]
set_option maxRecDepth 100000 in
set_option maxHeartbeats 2000000 in
theorem CheckFrame_any (n : Nat) (a : Option Addr) (cap : Nat) (l : List Nod) (w : World) (φ : Phi) (hφ : Fz φ w) (s : SlV φ a cap l) (hn : Hid (l.length = n)) (hm : n ≤ 9223372036854775807) :
    Calls Tryd.prog 9 #[.slice a n cap] w (IntB (treeF l) w) := by
  by_cases z : n = 0
  · have zb : ((n : Int) == 0) = true := by simp [z]
    have Z := Lib.hid z
    clear z
    go_enter Tryd.func9, Tryd.ntmps9
    go_wp2
    go_ret
    exact ⟨ret_int (treeF_n (by rw [nodesF, hn.out, if_pos Z.out]) (by decide)).symm, Below.refl _ _⟩
  have zb : ((n : Int) == 0) = false := by simp; omega
  by_cases hl : 600 < n
  · go_enter Tryd.func9, Tryd.ntmps9
    go_wp2
    go_ret
    exact ⟨ret_int (treeF_n (by rw [nodesF, hn.out, if_neg z, if_pos hl]) (by decide)).symm, Below.refl _ _⟩
  have h0 : 0 < n := by omega
  have z := Lib.hid z
  go_enter Tryd.func9, Tryd.ntmps9
  go_wp2
  clear zb
  go_loopw [25] (fun i wr => ∃ k : Nat, k ≤ n ∧ i = .int .i64 k ∧ Hid (∀ i, i < k → nodeBad l i = 0) ∧ Below w.heap.size w wr) (fun i _ => n - (intOf i).toNat)
  case atStart => exact ⟨0, Nat.zero_le _, rfl, none_yet _, Below.refl _ _⟩
  case round =>
    obtain ⟨k, hk, rfl, hok, hbel⟩ := hrel
    by_cases hlt : k < n
    · obtain ⟨b, off, rfl, f⟩ := s.nodesD hn hlt
      have hf := hφ.below hbel
      obtain ⟨hb, c1, c2, c3⟩ := f k hlt wr hf
      have HP := Lib.hid (fun h : 0 < k => (f (k - 1) (by omega) wr hf).2.1)
      have hbad : Hid (nodeBad l k = _) := Lib.hid (nodeBad.eq_1 l k)
      clear f
      generalize (l.getD k nod0).1 = m at *
      generalize (l.getD k nod0).2.1 = pa at *
      generalize (l.getD k nod0).2.2 = ti at *
      generalize (l.getD (k - 1) nod0).1 = p at *
      have hbel2 : ∀ o, Below w.heap.size w (wr.alloc o) := fun o => hbel.alloc hbel.size o
      obtain ⟨o1, ho1⟩ : ∃ o, Hid (outB m 1 999 = o) := ⟨_, Lib.hid rfl⟩
      obtain ⟨tb, htb⟩ : ∃ o, Hid (titleB ti = o) := ⟨_, Lib.hid rfl⟩
      cases o1
      case true =>
        go_wp2_with fail
        refine (within_b _ _ _ _ ho1.out).mono ?_
        rintro e w' ⟨rfl, rfl⟩
        go_wp2
        go_ret
        exact ⟨ret_int (treeF_n (nodesF_at hn h0 (by omega) hlt hok (by rw [hbad.out, if_pos ho1.out]) (by decide)) (by decide)).symm, hbel2 _⟩
      have e1 : Hid (¬ outB m 1 999 = true) := Lib.hid (by rw [ho1.out]; simp)
      by_cases h3 : 0 < k
      · have hpp := HP.out h3
        have h3i : decide ((0 : Int) < k) = true := decide_eq_true (by omega)
        have hix : 0 ≤ (k : Int) - 1 := by omega
        have hix2 : (k : Int) - 1 < n := by omega
        have hw1 : IntKind.i64.wrap ((k : Int) - 1) = k - 1 := IntWalk.i64_in _ (by omega)
        have hto : ((k : Int) - 1).toNat = k - 1 := by omega
        by_cases h4 : m ≤ p
        · have h4i : decide (m ≤ p) = true := decide_eq_true h4
          go_wp2_with fail
          refine (within_b _ _ _ _ ho1.out).mono ?_
          rintro e w' ⟨rfl, rfl⟩
          go_wp2
          go_quiet (fail)
          clear hw1 hto
          go_wp2
          go_ret
          exact ⟨ret_int (treeF_n (nodesF_at hn h0 (by omega) hlt hok (by rw [hbad.out, if_neg e1.out, if_pos ⟨h3, h4⟩]) (by decide)) (by decide)).symm, bdrewN (hbel2 _) _⟩
        · have h4i : decide (m ≤ p) = false := decide_eq_false h4
          have e2 : Hid (¬ (0 < k ∧ m ≤ p)) := Lib.hid (fun h => h4 h.2)
          go_wp2_with fail
          refine (within_b _ _ _ _ ho1.out).mono ?_
          rintro e w' ⟨rfl, rfl⟩
          go_wp2
          go_quiet (fail)
          clear hw1 hto
          by_cases h5 : 60 < ti.size
          · go_wp2
            go_ret
            exact ⟨ret_int (treeF_n (nodesF_at hn h0 (by omega) hlt hok (by rw [hbad.out, if_neg e1.out, if_neg e2.out, if_pos h5]) (by decide)) (by decide)).symm, bdrewN (hbel2 _) _⟩
          · have hts : ti.size ≤ 1000000000 := by omega
            cases tb
            · go_wp2_with fail
              refine (titled_b _ _ hts htb.out).mono ?_
              rintro e w' ⟨rfl, rfl⟩
              go_wp2
              go_ret
              exact ⟨ret_int (treeF_n (nodesF_at hn h0 (by omega) hlt hok (by rw [hbad.out, if_neg e1.out, if_neg e2.out, if_neg h5, if_pos htb.out]) (by decide)) (by decide)).symm, bdrewN (hbel2 _) _⟩
            · go_wp2_with fail
              refine (titled_b _ _ hts htb.out).mono ?_
              rintro e w' ⟨rfl, rfl⟩
              go_wp2
              go_roundw
              case rel => exact ⟨k + 1, by omega, by go_num, next_ok hok (by rw [hbad.out, if_neg e1.out, if_neg e2.out, if_neg h5, if_neg (by rw [htb.out]; simp)]), bdrewN (hbel2 _) _⟩
              case measure => (simp [intOf] <;> omega)
      · have h3i : decide ((0 : Int) < k) = false := decide_eq_false (by omega)
        have e2 : Hid (¬ (0 < k ∧ m ≤ p)) := Lib.hid (fun h => h3 h.1)
        go_wp2_with fail
        refine (within_b _ _ _ _ ho1.out).mono ?_
        rintro e w' ⟨rfl, rfl⟩
        go_wp2
        go_quiet (fail)
        by_cases h5 : 60 < ti.size
        · go_wp2
          go_ret
          exact ⟨ret_int (treeF_n (nodesF_at hn h0 (by omega) hlt hok (by rw [hbad.out, if_neg e1.out, if_neg e2.out, if_pos h5]) (by decide)) (by decide)).symm, bdrewN (hbel2 _) _⟩
        · have hts : ti.size ≤ 1000000000 := by omega
          cases tb
          · go_wp2_with fail
            refine (titled_b _ _ hts htb.out).mono ?_
            rintro e w' ⟨rfl, rfl⟩
            go_wp2
            go_ret
            exact ⟨ret_int (treeF_n (nodesF_at hn h0 (by omega) hlt hok (by rw [hbad.out, if_neg e1.out, if_neg e2.out, if_neg h5, if_pos htb.out]) (by decide)) (by decide)).symm, bdrewN (hbel2 _) _⟩
          · go_wp2_with fail
            refine (titled_b _ _ hts htb.out).mono ?_
            rintro e w' ⟨rfl, rfl⟩
            go_wp2
            go_roundw
            case rel => exact ⟨k + 1, by omega, by go_num, next_ok hok (by rw [hbad.out, if_neg e1.out, if_neg e2.out, if_neg h5, if_neg (by rw [htb.out]; simp)]), bdrewN (hbel2 _) _⟩
            case measure => (simp [intOf] <;> omega)
    · obtain rfl : k = n := by omega
      clear hlt hk
      have hN : Hid (nodesF l = 0) := Lib.hid (nodesF_ok hn h0 (by omega) hok)
      have HOK : Hid (FrOk l k) := Lib.hid (by have := nodesF_zero hN.out; rwa [hn.out] at this)
      rename Nat => n
      clear hok
      have hB1 := Lib.hid hbel
      clear hbel
      go_wp2
      go_loopw [62] (fun i wr => ∃ k : Nat, k ≤ n ∧ i = .int .i64 k ∧ Hid (∀ i, i < k → par5 l i = 0) ∧ Below w.heap.size w wr) (fun i _ => n - (intOf i).toNat)
      case atStart => exact ⟨0, Nat.zero_le _, rfl, none_yet _, hB1.out⟩
      case round =>
        clear hB1
        obtain ⟨k, hk, rfl, hok, hbel⟩ := hrel
        by_cases hlt : k < n
        · obtain ⟨b, off, rfl, f⟩ := s.nodesD hn hlt
          have hf := hφ.below hbel
          obtain ⟨hb, c1, c2, c3⟩ := f k hlt wr hf
          have hbad : Hid (par5 l k = _) := Lib.hid (par5.eq_1 l k)
          have hpe : Hid (par0 l k = (l.getD k nod0).2.1) := Lib.hid rfl
          rw [hpe.out] at hbad
          clear f
          generalize (l.getD k nod0).1 = m at *
          generalize (l.getD k nod0).2.1 = pa at *
          generalize (l.getD k nod0).2.2 = ti at *
          have hbel2 : ∀ o, Below w.heap.size w (wr.alloc o) := fun o => hbel.alloc hbel.size o
          by_cases hp0 : pa = 0
          · have hg : ((pa : Int) != 0) = false := by simp [hp0]
            have H0 := Lib.hid hp0
            clear hp0
            go_wp2
            go_roundw
            case rel => exact ⟨k + 1, by omega, by go_num, next_ok hok (by rw [hbad.out, if_neg (fun h => h.1 H0.out)]), hbel2 _⟩
            case measure => (simp [intOf] <;> omega)
          · have hg : ((pa : Int) != 0) = true := by simp [hp0]
            have H0 := Lib.hid hp0
            clear hp0
            have hbx := hbel2 (.cells #[.int .i64 m, .int .i64 pa, .string ti] 38)
            have HBX := Lib.hid hbx
            clear hbx hbel2
            obtain ⟨q, hq⟩ : ∃ q, Hid (ix l pa = q) := ⟨_, Lib.hid rfl⟩
            cases q with
            | none =>
              go_wp2_with fail
              refine (find_any (hφ.below HBX.out) s HOK pa).mono ?_
              rintro e w1 ⟨rfl, hb1⟩
              have HB1 := Lib.hid (HBX.out.trans (hb1.mono HBX.out.size))
              rw [fdI_none hq.out]
              clear hb1
              have e5 : Hid (par5 l k = 5) := Lib.hid (by rw [hbad.out, if_pos ⟨H0.out, hq.out⟩])
              go_wp2
              go_ret
              exact ⟨ret_int (treeF_5 hN.out hn.out hok.out hlt e5.out).symm, HB1.out⟩
            | some i =>
              go_wp2_with fail
              refine (find_any (hφ.below HBX.out) s HOK pa).mono ?_
              rintro e w1 ⟨rfl, hb1⟩
              have HB1 := Lib.hid (HBX.out.trans (hb1.mono HBX.out.size))
              rw [fdI_some hq.out]
              have hi0 : decide ((i : Int) < 0) = false := decide_eq_false (by omega)
              clear hb1
              go_wp2
              go_roundw
              case rel => exact ⟨k + 1, by omega, by go_num, next_ok hok (by rw [hbad.out, if_neg (fun h => by have := h.2; rw [hq.out] at this; cases this)]), HB1.out⟩
              case measure => (simp [intOf] <;> omega)
        · obtain rfl : k = n := by omega
          rename Nat => n
          clear hlt hk
          have H5 := hok
          have HPK : Hid (ParOk l n) := Lib.hid (par_of HOK.out hok.out)
          clear hok
          have hB1 := Lib.hid hbel
          clear hbel
          go_wp2
          go_loopw [79] (fun i wr => ∃ k : Nat, k ≤ n ∧ i = .int .i64 k ∧ Hid (∀ i, i < k → cyc18 l i = 0) ∧ Below w.heap.size w wr) (fun i _ => n - (intOf i).toNat)
          case atStart => exact ⟨0, Nat.zero_le _, rfl, none_yet _, hB1.out⟩
          case round =>
            clear hB1
            obtain ⟨k, hk, rfl, hok, hbel⟩ := hrel
            by_cases hlt : k < n
            · obtain ⟨b, off, rfl, f⟩ := s.nodesD hn hlt
              have hf := hφ.below hbel
              obtain ⟨hb, c1, c2, c3⟩ := f k hlt wr hf
              have hme : Hid ((l.getD k nod0).1 = (l.getD k nod0).1) := Lib.hid rfl
              have HLP : Hid ((cyc18 l k ≠ 0 → (abvF l (l.getD k nod0).1).2 = false ∧ cyc18 l k = 18) ∧ (cyc18 l k = 0 → (abvF l (l.getD k nod0).1).2 = true ∧ (l.getD k nod0).1 ∉ (abvF l (l.getD k nod0).1).1 ∧ (abvF l (l.getD k nod0).1).1.length + 1 = lvl l (l.getD k nod0).1 ∧ lvl l (l.getD k nod0).1 ≤ n)) := Lib.hid (abv_loop HPK.out hlt)
              have hvl : Hid ((ix l (l.getD k nod0).1).isSome = true) := Lib.hid (by have := HOK.out.ix_of hlt; rw [show (l.getD k nod0).1 = cod l k from rfl, this]; rfl)
              have hlen : Hid ((abvF l (l.getD k nod0).1).1.length ≤ 600) := Lib.hid (abv_len HPK.out _)
              clear f
              generalize hmm : (l.getD k nod0).1 = m at *
              replace hme := Lib.hid hmm
              clear hmm
              generalize (l.getD k nod0).2.1 = pa at *
              generalize (l.getD k nod0).2.2 = ti at *
              have HBX := Lib.hid (hbel.alloc hbel.size (.cells #[.int .i64 m, .int .i64 pa, .string ti] 38))
              by_cases hc : cyc18 l k = 0
              · obtain ⟨r1, r2, _, _⟩ := HLP.out.2 hc
                have HC := Lib.hid hc
                have R2 := Lib.hid r2
                have R1 := Lib.hid r1
                clear hc r1 r2
                go_wp2_with fail
                refine (above_any (hφ.below HBX.out) s HPK m hvl.out).mono ?_
                rintro e w1 ⟨au, cu, φ1, rfl, hi1, su⟩
                have x0 : w1.cell? ⟨wr.heap.size, 0, none⟩ = some (.int .i64 m) := (hi1.bel.cell (p := ⟨wr.heap.size, 0, none⟩) (by simp)).trans (box_at 0)
                have I1 := Lib.hid hi1
                have HB1 := Lib.hid (HBX.out.trans (hi1.bel.mono HBX.out.size))
                clear hi1
                obtain ⟨nu, hnu⟩ : ∃ nu, Hid ((abvF l m).1.length = nu) := ⟨_, Lib.hid rfl⟩
                rw [R1.out, hnu.out]
                have hnu2 : nu ≤ 600 := by rw [← hnu.out]; exact hlen.out
                go_wp2_with fail
                refine (Contains_f nu au cu _ m _ _ I1.out.fz su hnu (by omega) R2.out).mono ?_
                rintro e w' ⟨rfl, rfl⟩
                go_wp2
                go_roundw
                case rel => exact ⟨k + 1, by omega, by go_num, next_ok hok HC.out, HB1.out⟩
                case measure => (simp [intOf] <;> omega)
              · obtain ⟨r1, r2⟩ := HLP.out.1 hc
                have R2 := Lib.hid r2
                have R1 := Lib.hid r1
                clear hc r1 r2
                go_wp2_with fail
                refine (above_any (hφ.below HBX.out) s HPK m hvl.out).mono ?_
                rintro e w1 ⟨au, cu, φ1, rfl, hi1, su⟩
                have x0 : w1.cell? ⟨wr.heap.size, 0, none⟩ = some (.int .i64 m) := (hi1.bel.cell (p := ⟨wr.heap.size, 0, none⟩) (by simp)).trans (box_at 0)
                have I1 := Lib.hid hi1
                have HB1 := Lib.hid (HBX.out.trans (hi1.bel.mono HBX.out.size))
                clear hi1
                rw [R1.out]
                go_wp2
                go_ret
                exact ⟨ret_int (treeF_18 hN.out hn.out H5.out hok.out hlt R2.out).symm, HB1.out⟩
            · obtain rfl : k = n := by omega
              rename Nat => n
              clear hlt hk
              have H18 := hok
              clear hok
              have hB1 := Lib.hid hbel
              clear hbel
              go_wp2
              go_loopw [101] (fun i wr => ∃ k : Nat, k ≤ n ∧ i = .int .i64 k ∧ Hid (∀ i, i < k → deep2 l i = 0) ∧ Below w.heap.size w wr) (fun i _ => n - (intOf i).toNat)
              case atStart => exact ⟨0, Nat.zero_le _, rfl, none_yet _, hB1.out⟩
              case round =>
                clear hB1
                obtain ⟨k, hk, rfl, hok, hbel⟩ := hrel
                by_cases hlt : k < n
                · obtain ⟨b, off, rfl, f⟩ := s.nodesD hn hlt
                  have hf := hφ.below hbel
                  obtain ⟨hb, c1, c2, c3⟩ := f k hlt wr hf
                  have hme : Hid ((l.getD k nod0).1 = (l.getD k nod0).1) := Lib.hid rfl
                  have HLP : Hid ((cyc18 l k ≠ 0 → (abvF l (l.getD k nod0).1).2 = false ∧ cyc18 l k = 18) ∧ (cyc18 l k = 0 → (abvF l (l.getD k nod0).1).2 = true ∧ (l.getD k nod0).1 ∉ (abvF l (l.getD k nod0).1).1 ∧ (abvF l (l.getD k nod0).1).1.length + 1 = lvl l (l.getD k nod0).1 ∧ lvl l (l.getD k nod0).1 ≤ n)) := Lib.hid (abv_loop HPK.out hlt)
                  have hvl : Hid ((ix l (l.getD k nod0).1).isSome = true) := Lib.hid (by have := HOK.out.ix_of hlt; rw [show (l.getD k nod0).1 = cod l k from rfl, this]; rfl)
                  have hlen : Hid ((abvF l (l.getD k nod0).1).1.length ≤ 600) := Lib.hid (abv_len HPK.out _)
                  clear f
                  generalize hmm : (l.getD k nod0).1 = m at *
                  replace hme := Lib.hid hmm
                  clear hmm
                  generalize (l.getD k nod0).2.1 = pa at *
                  generalize (l.getD k nod0).2.2 = ti at *
                  have HBX := Lib.hid (hbel.alloc hbel.size (.cells #[.int .i64 m, .int .i64 pa, .string ti] 38))
                  obtain ⟨_, _, r3, r4⟩ := HLP.out.2 (H18.out k hlt)
                  have R3 := Lib.hid r3
                  have hdp : Hid (deep2 l k = if 8 < lvl l m then 2 else 0) := Lib.hid (by unfold deep2; rw [show cod l k = m from hme.out])
                  clear r3
                  go_wp2_with fail
                  refine (above_any (hφ.below HBX.out) s HPK m hvl.out).mono ?_
                  rintro e w1 ⟨au, cu, φ1, rfl, hi1, su⟩
                  have x0 : w1.cell? ⟨wr.heap.size, 0, none⟩ = some (.int .i64 m) := (hi1.bel.cell (p := ⟨wr.heap.size, 0, none⟩) (by simp)).trans (box_at 0)
                  have I1 := Lib.hid hi1
                  have HB1 := Lib.hid (HBX.out.trans (hi1.bel.mono HBX.out.size))
                  clear hi1
                  obtain ⟨nu, hnu⟩ : ∃ nu, Hid ((abvF l m).1.length = nu) := ⟨_, Lib.hid rfl⟩
                  rw [hnu.out]
                  have hnl : Hid (nu + 1 = lvl l m) := Lib.hid (by rw [← hnu.out]; exact R3.out)
                  by_cases h8 : 8 ≤ nu
                  · have e2 : Hid (deep2 l k = 2) := Lib.hid (by rw [hdp.out, if_pos (by rw [← hnl.out]; omega)])
                    go_wp2
                    go_ret
                    exact ⟨ret_int (treeF_2 hN.out hn.out H5.out H18.out hok.out hlt e2.out).symm, HB1.out⟩
                  · have e2 : Hid (deep2 l k = 0) := Lib.hid (by rw [hdp.out, if_neg (by rw [← hnl.out]; omega)])
                    go_wp2
                    go_roundw
                    case rel => exact ⟨k + 1, by omega, by go_num, next_ok hok e2.out, HB1.out⟩
                    case measure => (simp [intOf] <;> omega)
                · obtain rfl : k = n := by omega
                  go_wp2
                  go_ret
                  exact ⟨ret_int (treeF_0 hN.out hn.out H5.out H18.out hok.out).symm, hbel⟩
end Go.Proofs.YtapkkplndhbapaaDoor
