/- The walk of layersOf. Conditions: texts of a length that a form reaches. -/
import Derived.Test.YtnlhalnjbkpdnaaGreatDoorZ11
import Derived.Test.YtnlhalnjbkpdnaaGreatDoorZE
import Derived.OwnWalk
import Derived.Maps.OwnSet
namespace Go.Proofs.YtnlhalnjbkpdnaaGreatDoor
open Go.RowKit Go.Sort
set_option linter.unusedVariables false
set_option linter.unusedSimpArgs false
theorem slLy : SliceTy Tryz.prog 88 137 (.agg #[.string ⟨#[]⟩, .slice none 0 0, .int .i64 0, .slice none 0 0]) (Rep.size Lyr) 72 := ⟨Tryz.underlying88, by kernel_rfl, rfl, by decide, by decide⟩
theorem zeroUs (w : World) : (zeroValue 25).run Tryz.prog w = .ok (.slice none 0 0) w := by kernel_rfl
theorem outsideZ_b (n lo hi : Int) (w : World) {b : Bool} (h : outB n lo hi = b) :
    Calls Tryz.prog 83 #[.int .i64 n, .int .i64 lo, .int .i64 hi] w fun e w' => e = .returned (.bool b) ∧ w = w' := by
  subst h
  go_enter Tryz.func83, Tryz.ntmps83
  by_cases h : n < lo
  · go_wp2
    go_ret
    exact ⟨by simp [outB, h], rfl⟩
  · go_wp2
    go_ret
    exact ⟨by simp [outB]; omega, rfl⟩
/-- A map of rows in the making. -/
structure LzS (w0 : World) (φ : Phi) (r : Nat) (hd : ByteArray → Option Hdr) (f : ByteArray → List Unt) (W : World) : Prop where
  inv : Inv w0.heap.size w0 φ φ W
  g : GrpW 64 w0.heap.size φ W r (fun _ => False) hd f
theorem LzS.callB {w0 W w' : World} {φ : Phi} {r : Nat} {hd : ByteArray → Option Hdr} {f : ByteArray → List Unt} (h : LzS w0 φ r hd f W) (hb : Below W.heap.size W w') : LzS w0 φ r hd f w' := ⟨h.inv.callB hb, h.g.callB hb⟩
theorem stu_step (l : List Unt) (u1 : Int) (u2 : ByteArray) (u3 u4 : Int) : (fun x => stU (l ++ [(u1, u2, u3, u4)]) x) = updK (fun x => stU l x) u2 (stU l u2 ++ [(u1, u2, u3, u4)]) := by
  funext x
  unfold updK
  rw [stU_snoc]
  by_cases h : x = u2
  · subst h
    simp
  · rw [if_neg (fun e => h e.symm), if_neg h]
theorem keyS_step {l : List Unt} {u : Unt} {hd : ByteArray → Option Hdr} {v : Hdr} (h : ∀ x, hd x = none ↔ stU l x = []) : ∀ x, updK hd u.2.1 (some v) x = none ↔ stU (l ++ [u]) x = [] := by
  intro x
  unfold updK
  rw [stU_snoc]
  by_cases e : x = u.2.1
  · rw [if_pos e, if_pos e.symm]
    simp
  · rw [if_neg e, if_neg (fun q => e q.symm), h]
theorem stU_ne {l : List Unt} {s : ByteArray} : stU l s ≠ [] ↔ s ∈ nmsL l := by
  rw [mem_nmsL]
  constructor
  · intro h
    obtain ⟨u, hu⟩ := List.exists_mem_of_ne_nil _ h
    have := List.mem_filter.1 hu
    exact ⟨u, this.1, btT_inj (by simpa using this.2)⟩
  · rintro ⟨u, hu, rfl⟩ h
    have : u ∈ stU l u.2.1 := List.mem_filter.2 ⟨hu, by simp⟩
    rw [h] at this
    cases this
theorem mgetS_mem {α : Type} {M : List (ByteArray × α)} {x : ByteArray} : x ∈ M.map (·.1) ↔ mget M x ≠ none := by
  constructor
  · intro h e
    exact mget_none_notMem M x e h
  · intro h
    cases hm : mget M x with
    | none => exact absurd hm h
    | some y =>
      unfold mget at hm
      rw [Option.map_eq_some_iff] at hm
      obtain ⟨p, hp, _⟩ := hm
      have h1 := List.mem_of_find?_eq_some hp
      have h2 := List.find?_some hp
      exact List.mem_map.2 ⟨p, h1, by simpa using h2⟩
theorem nms_nodup (l : List Unt) : (nmsL l).Nodup := by
  unfold nmsL
  rw [List.nodup_iff_pairwise_ne, List.pairwise_map]
  refine (risT_pw _).imp (fun {a b} h e => ?_)
  have e2 : a = b := by rw [← btT_ofT a, e, btT_ofT]
  rw [e2] at h
  rw [ltT_asymm _ _ h] at h
  cases h
theorem nodLenG {α : Type} [DecidableEq α] : ∀ (xs ys : List α), xs.Nodup → (∀ x ∈ xs, x ∈ ys) → xs.length ≤ ys.length
  | [], _, _, _ => by simp
  | x :: xs, ys, hn, h => by
    rw [List.nodup_cons] at hn
    have hx := h x (by simp)
    have := nodLenG xs (ys.erase x) hn.2 (fun y hy => (List.mem_erase_of_ne (fun e => hn.1 (by rw [← e]; exact hy))).2 (h y (by simp [hy])))
    rw [List.length_erase_of_mem hx] at this
    have := List.length_pos_of_mem hx
    simp only [List.length_cons]
    omega
theorem nms_len (l : List Unt) : (nmsL l).length ≤ l.length := by
  have := nodLenG (nmsL l) (l.map (·.2.1)) (nms_nodup l) (fun x hx => by
    obtain ⟨u, hu, e⟩ := mem_nmsL.1 hx
    exact List.mem_map.2 ⟨u, hu, e⟩)
  rwa [List.length_map] at this
theorem keys_nms {l : List Unt} {α : Type} {vr : α → Value → Prop} {o : Obj} {M : List (ByteArray × α)} {hd : ByteArray → Option α} (hM : MapO vr o M) (h3 : ∀ k, mget M k = hd k) (hk : ∀ x, hd x = none ↔ stU l x = []) : M.length = (nmsL l).length ∧ (risT (M.map (fun p => btT p.1))).map ofT = nmsL l ∧ ∀ p ∈ M, p.1 ∈ nmsL l := by
  have hmem : ∀ x, x ∈ M.map (·.1) ↔ x ∈ nmsL l := fun x => by
    rw [mgetS_mem, h3, ← stU_ne, ne_eq, hk]
  refine ⟨?_, ?_, fun p hp => (hmem p.1).1 (List.mem_map.2 ⟨p, hp, rfl⟩)⟩
  · have := ((List.perm_ext_iff_of_nodup hM.nodup (nms_nodup l)).2 hmem).length_eq
    rwa [List.length_map] at this
  · refine nmsL_eq (risT_pw _) (fun x => ?_)
    rw [mem_risT]
    constructor
    · intro h
      obtain ⟨p, hp, e⟩ := List.mem_map.1 h
      obtain ⟨u, hu, e2⟩ := mem_nmsL.1 ((hmem p.1).1 (List.mem_map.2 ⟨p, hp, rfl⟩))
      exact ⟨u, hu, by rw [e2]; exact e⟩
    · rintro ⟨u, hu, rfl⟩
      obtain ⟨p, hp, e⟩ := List.mem_map.1 ((hmem u.2.1).2 (mem_nmsL.2 ⟨u, hu, rfl⟩))
      exact List.mem_map.2 ⟨p, hp, by rw [e]⟩
/-- Layers in the making. -/
structure LxS (w0 : World) (φ0 : Phi) (ao : Option Addr) (co : Nat) (xs : List Lyr) (φ : Phi) (W : World) : Prop where
  inv : Inv w0.heap.size w0 φ0 φ W
  own : Own w0.heap.size φ W 137 ao co xs
theorem LxS.call {w0 W w' : World} {φ0 φ φ' : Phi} {ao : Option Addr} {co : Nat} {xs : List Lyr} (h : LxS w0 φ0 ao co xs φ W) (hi : Inv W.heap.size W φ φ' w') : LxS w0 φ0 ao co xs φ' w' := ⟨h.inv.call hi, h.own.call hi⟩
theorem lyr_err {l : List Unt} {q : Int} (h : frmU l = q) (h0 : q ≠ 0) : lyrR l = ([], q) := by unfold lyrR; rw [h, if_pos h0]
set_option maxRecDepth 100000 in
set_option maxHeartbeats 4000000 in
theorem layersOf_any {w : World} {a : Option Addr} {c n : Nat} {l : List Unt} {φ : Phi} (hφ : Fz φ w) (s : SlV φ a c l) (hn : Hid (l.length = n)) (hm : n ≤ 9223372036854775807) (hs : Hid (∀ u ∈ l, u.2.1.size ≤ reachBytes)) :
    Calls Tryz.prog 82 #[.slice a n c] w (SlPost (lyrR l) φ w) := by
  have HF := Lib.hid hφ
  by_cases hl : 5000 < n
  · have hf : Hid (lyrR l = ([], 2)) := Lib.hid (lyr_err (by unfold frmU; rw [if_pos (by rw [hn.out]; exact hl)]) (by decide))
    go_enter Tryz.func82, Tryz.ntmps82
    go_wp2
    go_ret2
    exact ⟨none, 0, φ, by rw [hf.out]; rfl, Inv.start HF.out, by rw [hf.out]; exact SlV.empty _⟩
  have hl : n ≤ 5000 := by omega
  have hZ0 : Hid (LzS w φ w.heap.size (fun _ => none) (fun x => stU (l.take 0) x) (w.alloc (.map #[] 0))) := Lib.hid ⟨(Inv.start hφ).alloc _, GrpW.new (Inv.start hφ)⟩
  have hmm := @run_makeMap Tryz.prog
  go_enter Tryz.func82, Tryz.ntmps82
  go_wp2
  clear hmm
  generalize w.alloc (.map #[] 0) = w1 at *
  generalize hr : w.heap.size = r at *
  go_loopw [16] (fun i wr => ∃ (k : Nat) (hd : ByteArray → Option Hdr), k ≤ n ∧ i = .int .i64 k ∧ Hid (∀ i, i < k → uBad l i = 0) ∧ Hid (∀ x, hd x = none ↔ stU (l.take k) x = []) ∧ Hid (LzS w φ r hd (fun x => stU (l.take k) x) wr)) (fun i _ => n - (intOf i).toNat)
  case atStart => exact ⟨0, fun _ => none, Nat.zero_le _, rfl, none_yet _, Lib.hid (fun x => by simp [stU]), hZ0⟩
  case round =>
    clear hZ0
    obtain ⟨k, hd, hk, rfl, hok, hky, hZ⟩ := hrel
    by_cases hlt : k < n
    · obtain ⟨b, off, rfl, f⟩ := s.untD hn hlt
      obtain ⟨hb, c1, c2, c3, c4⟩ := f k hlt wr hZ.out.inv.fz
      have hp : 0 < k → ∀ o, (wr.alloc o).cell? ⟨b, off + (k - 1) * 4, none⟩ = some (.int .i64 (l.getD (k - 1) unt0).1) := fun h o => (f (k - 1) (by omega) (wr.alloc o) (hZ.out.inv.fz.alloc o)).2.1
      have hbad : Hid (uBad l k = _) := Lib.hid (uBad.eq_1 l k)
      have hsu : Hid ((l.getD k unt0).2.1.size ≤ reachBytes) := Lib.hid (hs.out _ (by rw [getD_elem0 _ _ _ (by rw [hn.out]; exact hlt)]; exact List.getElem_mem _))
      have htk := Lib.hid (take_snocD unt0 l k n hn.out hlt)
      have HP := Lib.hid hp
      clear f hp
      generalize (l.getD (k - 1) unt0).1 = p at *
      generalize hU : l.getD k unt0 = U at *
      obtain ⟨u1, u2, u3, u4⟩ := U
      dsimp only at c1 c2 c3 c4 hsu hbad
      have hZ2 := Lib.hid (hZ.out.callB ((Below.refl _ _).alloc (Nat.le_refl _) (.cells #[.int .i64 u1, .string u2, .int .i64 u3, .int .i64 u4] 64)))
      have hnbj : Hid (∀ kk h x, hd kk = some h → h.a = some x → x.block ≠ wr.heap.size) := Lib.hid (fun kk h x hh hx => by have := ((hZ.out.g.row kk h hh).1.lt x hx).2; omega)
      have hKj := Lib.hid (Blk.new wr #[.int .i64 u1, .string u2, .int .i64 u3, .int .i64 u4] 64)
      clear hU
      go_upto_region 7 with (fail)
      have HP := Lib.hid (fun h => HP.out h (.cells #[.int .i64 u1, .string u2, .int .i64 u3, .int .i64 u4] 64))
      clear c1 c2 c3 c4 hb hZ
      generalize wr.alloc (.cells #[.int .i64 u1, .string u2, .int .i64 u3, .int .i64 u4] 64) = wj at *
      generalize wr.heap.size = bj at *
      have y0 : wj.cell? ⟨bj, 0, none⟩ = some (.int .i64 u1) := hKj.out.cell 0
      by_cases ha : u1 < 1
      · have e5 : Hid (uBad l k = 1) := Lib.hid (by rw [hbad.out, if_pos ha])
        have hB9 := Lib.hid hZ2.out.inv
        go_wp2
        go_ret2
        exact ⟨none, 0, φ, by rw [lyr_err (frm_stop hn.out hl hlt hok.out e5.out (by decide)) (by decide)]; rfl, by rw [hr]; exact hr ▸ hB9.out, by rw [lyr_err (frm_stop hn.out hl hlt hok.out e5.out (by decide)) (by decide)]; exact SlV.empty _⟩
      have HA := Lib.hid ha
      have g0 : decide (u1 < 1) = false := decide_eq_false ha
      clear ha
      by_cases h3 : 0 < k
      · have hpp := HP.out h3
        have h3i : (0 : Int) < k := by omega
        have hix : 0 ≤ (k : Int) - 1 := by omega
        have hix2 : (k : Int) - 1 < n := by omega
        have hw1 : IntKind.i64.wrap ((k : Int) - 1) = k - 1 := IntWalk.i64_in _ (by omega)
        have hto : ((k : Int) - 1).toNat = k - 1 := by omega
        by_cases h4 : u1 ≤ p
        · have e7 : Hid (uBad l k = 7) := Lib.hid (by rw [hbad.out, if_neg HA.out, if_pos ⟨h3, h4⟩])
          go_upto_region 9 with (fail)
          go_quiet (fail)
          have hB9 := Lib.hid (hZ2.out.inv.drewN nq)
          go_wp2
          go_ret2
          exact ⟨none, 0, φ, by rw [lyr_err (frm_stop hn.out hl hlt hok.out e7.out (by decide)) (by decide)]; rfl, by rw [hr]; exact hr ▸ hB9.out, by rw [lyr_err (frm_stop hn.out hl hlt hok.out e7.out (by decide)) (by decide)]; exact SlV.empty _⟩
        have hb2 : Hid (uBad l k = _) := Lib.hid (by rw [hbad.out, if_neg HA.out, if_neg (fun q => h4 q.2)])
        have g5 : decide (u1 ≤ p) = false := decide_eq_false h4
        clear h4
        go_upto_region 9 with (fail)
        go_quiet (fail)
        have hZ2 : Hid (LzS w φ r hd (fun x => stU (l.take k) x) (wj.drewN nq)) := Lib.hid (hZ2.out.callB (bdrewN (Below.refl _ wj) nq))
        have hKj : Hid (Blk (wj.drewN nq) bj #[.int .i64 u1, .string u2, .int .i64 u3, .int .i64 u4] 64) := Lib.hid (hKj.out.drewN nq)
        clear y0
        generalize wj.drewN nq = wj at *
        obtain ⟨y0, y1, y2, y3⟩ : wj.cell? ⟨bj, 0, none⟩ = some (.int .i64 u1) ∧ wj.cell? ⟨bj, 1, none⟩ = some (.string u2) ∧ wj.cell? ⟨bj, 2, none⟩ = some (.int .i64 u3) ∧ wj.cell? ⟨bj, 3, none⟩ = some (.int .i64 u4) := ⟨hKj.out.cell 0, hKj.out.cell 1, hKj.out.cell 2, hKj.out.cell 3⟩
        go_upto_region 11 with (fail)
        clear hix hix2 hw1 hto hpp g5 h3i
        obtain ⟨nb, hnb⟩ : ∃ b, Hid (nameB u2 = b) := ⟨_, Lib.hid rfl⟩
        obtain ⟨o1, ho1⟩ : ∃ b, Hid (outB u3 0 5000 = b) := ⟨_, Lib.hid rfl⟩
        obtain ⟨o2, ho2⟩ : ∃ b, Hid (outB u4 1 1000000 = b) := ⟨_, Lib.hid rfl⟩
        have hB9 := Lib.hid hZ2.out.inv
        cases nb with
        | false =>
          have e5 : Hid (uBad l k = 5) := Lib.hid (by rw [hb2.out, if_pos hnb.out])
          go_wp2_with (first
            | (go_at_call 143; (with_reducible refine (IsName_any u2 _ hsu.out hnb.out).mono ?_); rintro e w9 ⟨rfl, rfl⟩)
            | (go_at_call 83; first | ((with_reducible refine (outsideZ_b u3 0 5000 _ ho1.out).mono ?_); rintro e w9 ⟨rfl, rfl⟩) | ((with_reducible refine (outsideZ_b u4 1 1000000 _ ho2.out).mono ?_); rintro e w9 ⟨rfl, rfl⟩) | fail)
            | fail)
          go_ret2
          exact ⟨none, 0, φ, by rw [lyr_err (frm_stop hn.out hl hlt hok.out e5.out (by decide)) (by decide)]; rfl, by rw [hr]; exact hr ▸ hB9.out, by rw [lyr_err (frm_stop hn.out hl hlt hok.out e5.out (by decide)) (by decide)]; exact SlV.empty _⟩
        | true =>
          have HN : Hid (¬ nameB u2 = false) := Lib.hid (by rw [hnb.out]; simp)
          cases o1 with
          | true =>
            have e5 : Hid (uBad l k = 1) := Lib.hid (by rw [hb2.out, if_neg HN.out, if_pos (.inl ho1.out)])
            go_wp2_with (first
              | (go_at_call 143; (with_reducible refine (IsName_any u2 _ hsu.out hnb.out).mono ?_); rintro e w9 ⟨rfl, rfl⟩)
              | (go_at_call 83; first | ((with_reducible refine (outsideZ_b u3 0 5000 _ ho1.out).mono ?_); rintro e w9 ⟨rfl, rfl⟩) | ((with_reducible refine (outsideZ_b u4 1 1000000 _ ho2.out).mono ?_); rintro e w9 ⟨rfl, rfl⟩) | fail)
              | fail)
            go_ret2
            exact ⟨none, 0, φ, by rw [lyr_err (frm_stop hn.out hl hlt hok.out e5.out (by decide)) (by decide)]; rfl, by rw [hr]; exact hr ▸ hB9.out, by rw [lyr_err (frm_stop hn.out hl hlt hok.out e5.out (by decide)) (by decide)]; exact SlV.empty _⟩
          | false =>
            cases o2 with
            | true =>
              have e5 : Hid (uBad l k = 1) := Lib.hid (by rw [hb2.out, if_neg HN.out, if_pos (.inr ho2.out)])
              go_wp2_with (first
                | (go_at_call 143; (with_reducible refine (IsName_any u2 _ hsu.out hnb.out).mono ?_); rintro e w9 ⟨rfl, rfl⟩)
                | (go_at_call 83; first | ((with_reducible refine (outsideZ_b u3 0 5000 _ ho1.out).mono ?_); rintro e w9 ⟨rfl, rfl⟩) | ((with_reducible refine (outsideZ_b u4 1 1000000 _ ho2.out).mono ?_); rintro e w9 ⟨rfl, rfl⟩) | fail)
                | fail)
              go_ret2
              exact ⟨none, 0, φ, by rw [lyr_err (frm_stop hn.out hl hlt hok.out e5.out (by decide)) (by decide)]; rfl, by rw [hr]; exact hr ▸ hB9.out, by rw [lyr_err (frm_stop hn.out hl hlt hok.out e5.out (by decide)) (by decide)]; exact SlV.empty _⟩
            | false =>
              have e5 : Hid (uBad l k = 0) := Lib.hid (by rw [hb2.out, if_neg HN.out, if_neg (by rw [ho1.out, ho2.out]; simp)])
              go_upto_region 15 with (first
                | (go_at_call 143; (with_reducible refine (IsName_any u2 _ hsu.out hnb.out).mono ?_); rintro e w9 ⟨rfl, rfl⟩)
                | (go_at_call 83; first | ((with_reducible refine (outsideZ_b u3 0 5000 _ ho1.out).mono ?_); rintro e w9 ⟨rfl, rfl⟩) | ((with_reducible refine (outsideZ_b u4 1 1000000 _ ho2.out).mono ?_); rintro e w9 ⟨rfl, rfl⟩) | fail)
                | fail)
              have hX : Hid (stU (l.take k) u2 = stU (l.take k) u2) := Lib.hid rfl
              obtain ⟨xs, hX⟩ : ∃ xs, Hid (stU (l.take k) u2 = xs) := ⟨_, Lib.hid rfl⟩
              have hxl : xs.length ≤ 5000 := by rw [← hX.out]; have := stU_len (l.take k) u2; rw [List.length_take] at this; omega
              have hZA : Hid (LzS w φ r hd (fun x => stU (l.take k) x) (wj.alloc (.cells #[.int .i64 u1, .string u2, .int .i64 u3, .int .i64 u4] 64)).drew) := Lib.hid ((hZ2.out.callB ((Below.refl _ _).alloc (Nat.le_refl _) _)).callB (bdrewN (Below.refl _ _) 1))
              have hKA : Hid (Blk (wj.alloc (.cells #[.int .i64 u1, .string u2, .int .i64 u3, .int .i64 u4] 64)).drew bj #[.int .i64 u1, .string u2, .int .i64 u3, .int .i64 u4] 64) := Lib.hid ((hKj.out.alloc _).drewN 1)
              obtain ⟨ga, gc, hlk, how, hhd⟩ := hZA.out.g.look Tryz.underlying187 Tryz.underlying9 zeroUs u2
              have HHD := Lib.hid hhd
              rw [hX.out] at hlk how
              have halr : (wj.alloc (.cells #[.int .i64 u1, .string u2, .int .i64 u3, .int .i64 u4] 64)).drew.heap[r]? = wj.heap[r]? := ((Below.refl wj.heap.size wj).alloc (Nat.le_refl _) _).block r hZ2.out.g.lt
              have l1 : (Instr.lookup 187 (.map (some r)) (.string u2) false).run Tryz.prog wj = .ok (.slice ga xs.length gc) wj := hlk wj halr.symm
              have l2 : (Instr.lookup 187 (.map (some r)) (.string u2) false).run Tryz.prog wj.drew = .ok (.slice ga xs.length gc) wj.drew := hlk wj.drew halr.symm
              have l3 : (Instr.lookup 187 (.map (some r)) (.string u2) false).run Tryz.prog (wj.alloc (.cells #[.int .i64 u1, .string u2, .int .i64 u3, .int .i64 u4] 64)).drew = .ok (.slice ga xs.length gc) (wj.alloc (.cells #[.int .i64 u1, .string u2, .int .i64 u3, .int .i64 u4] 64)).drew := hlk _ rfl
              have HLK := Lib.hid hlk
              have HIA := Lib.hid hZA.out.inv
              have HOA := Lib.hid how
              have HRU := Lib.hid (fun φ => rep_unt φ (u1, u2, u3, u4))
              obtain ⟨y0, y1, y2, y3⟩ : wj.cell? ⟨bj, 0, none⟩ = some (.int .i64 u1) ∧ wj.cell? ⟨bj, 1, none⟩ = some (.string u2) ∧ wj.cell? ⟨bj, 2, none⟩ = some (.int .i64 u3) ∧ wj.cell? ⟨bj, 3, none⟩ = some (.int .i64 u4) := ⟨hKj.out.cell 0, hKj.out.cell 1, hKj.out.cell 2, hKj.out.cell 3⟩
              have d0 : wj.drew.cell? ⟨bj, 0, none⟩ = some (.int .i64 u1) := y0
              have d1 : wj.drew.cell? ⟨bj, 1, none⟩ = some (.string u2) := y1
              have d2 : wj.drew.cell? ⟨bj, 2, none⟩ = some (.int .i64 u3) := y2
              have d3 : wj.drew.cell? ⟨bj, 3, none⟩ = some (.int .i64 u4) := y3
              have a1 : (wj.alloc (.cells #[.int .i64 u1, .string u2, .int .i64 u3, .int .i64 u4] 64)).drew.cell? ⟨bj, 1, none⟩ = some (.string u2) := hKA.out.cell 1
              have hgr : Hid (some r ≠ ga.map (·.block) ∧ some bj ≠ ga.map (·.block)) := Lib.hid (by
                rcases hhd with h | ⟨_, e, _⟩
                · refine ⟨fun e => ?_, fun e => ?_⟩
                  · cases ga with
                    | none => cases e
                    | some x => exact (hZA.out.g.nm u2 _ x h rfl).1 (Option.some.inj e).symm
                  · cases ga with
                    | none => cases e
                    | some x => exact hnbj.out u2 _ x h rfl (Option.some.inj e).symm
                · rw [e]; exact ⟨(fun e => by cases e), (fun e => by cases e)⟩)
              clear hlk how hhd halr
              go_region_law (first
                | (refine step_appF (α := Unt) (by rfl) _ _ _ (by rfl) slUn HIA.out ga gc xs (by rfl) HOA.out ⟨wj.heap.size, 0, none⟩ 1 [(u1, u2, u3, u4)] [.int .i64 u1, .string u2, .int .i64 u3, .int .i64 u4] 1 (by rfl) (by rfl) (RepL.single (HRU.out _)) (World.news_of_block (cs := #[.int .i64 u1, .string u2, .int .i64 u3, .int .i64 u4]) (t := 64) (fr := (0, 0)) (heap_alloc_new wj _)) (by show (xs.length + 1) * 40 ≤ 140737488355328; omega) ?_; intro a7 c7 w7 hi7 ho7 hg7 hf7; obtain ⟨o, hup, hM⟩ := hZA.out.g.put Tryz.underlying187 Tryz.underlying9 (by rw [hX.out] at HHD ⊢; exact HHD.out) (n := xs.length + 1) (by simp) ho7 hg7 hf7 (fun b hb => hb.elim); have hu7 : (Instr.mapUpdate 187 (.map (some r)) (.string u2) (.slice a7 (xs.length + 1) c7)).run Tryz.prog w7 = .ok () (setMap w7 r o) := hup w7 (hg7.block r hZA.out.g.lt hgr.out.1); have hb7 : Blk w7 bj #[.int .i64 u1, .string u2, .int .i64 u3, .int .i64 u4] 64 := (hg7.block bj hKA.out.lt hgr.out.2).trans hKA.out; have b1 : w7.cell? ⟨bj, 1, none⟩ = some (.string u2) := hb7.cell 1; clear hb7; have HZ7 : Hid (LzS w φ r (updK hd u2 (some ⟨a7, xs.length + 1, c7⟩)) (updK (fun x => stU (l.take k) x) u2 (xs ++ [(u1, u2, u3, u4)])) (setMap w7 r o)) := Lib.hid ⟨hi7.write hZA.out.g.lo hZA.out.g.fr (setMap_grown w7 r o), hM⟩; clear hup hM hi7 ho7 hg7 hf7)
                | fail)
              all_goals
                clear hu7 b1 l1 l2 l3 d0 d1 d2 d3 a1 y0 y1 y2 y3
                generalize setMap w7 r o = w8 at *
                have hZ9 : Hid (LzS w φ r (updK hd u2 (some ⟨a7, xs.length + 1, c7⟩)) (fun x => stU (l.take (k + 1)) x) w8) := Lib.hid (by
                  rw [htk.out, stu_step, hX.out]
                  exact HZ7.out)
                have hky2 : Hid (∀ x, updK hd u2 (some ⟨a7, xs.length + 1, c7⟩) x = none ↔ stU (l.take (k + 1)) x = []) := Lib.hid (by
                  rw [htk.out]
                  exact keyS_step (u := (u1, u2, u3, u4)) hky.out)
                clear HZ7
                go_wp2
                go_roundw
                case rel => exact ⟨k + 1, _, by omega, by go_num, next_ok hok e5.out, hky2, hZ9⟩
                case measure => (simp [intOf] <;> omega)
      · have h3i : decide ((0 : Int) < k) = false := decide_eq_false (by omega)
        have hb2 : Hid (uBad l k = _) := Lib.hid (by rw [hbad.out, if_neg HA.out, if_neg (fun q => h3 q.1)])
        go_upto_region 9 with (fail)
        go_quiet (fail)
        have hZ2 : Hid (LzS w φ r hd (fun x => stU (l.take k) x) (wj.drewN nq)) := Lib.hid (hZ2.out.callB (bdrewN (Below.refl _ wj) nq))
        have hKj : Hid (Blk (wj.drewN nq) bj #[.int .i64 u1, .string u2, .int .i64 u3, .int .i64 u4] 64) := Lib.hid (hKj.out.drewN nq)
        clear y0
        generalize wj.drewN nq = wj at *
        obtain ⟨y0, y1, y2, y3⟩ : wj.cell? ⟨bj, 0, none⟩ = some (.int .i64 u1) ∧ wj.cell? ⟨bj, 1, none⟩ = some (.string u2) ∧ wj.cell? ⟨bj, 2, none⟩ = some (.int .i64 u3) ∧ wj.cell? ⟨bj, 3, none⟩ = some (.int .i64 u4) := ⟨hKj.out.cell 0, hKj.out.cell 1, hKj.out.cell 2, hKj.out.cell 3⟩
        go_upto_region 11 with (fail)
        clear h3i
        obtain ⟨nb, hnb⟩ : ∃ b, Hid (nameB u2 = b) := ⟨_, Lib.hid rfl⟩
        obtain ⟨o1, ho1⟩ : ∃ b, Hid (outB u3 0 5000 = b) := ⟨_, Lib.hid rfl⟩
        obtain ⟨o2, ho2⟩ : ∃ b, Hid (outB u4 1 1000000 = b) := ⟨_, Lib.hid rfl⟩
        have hB9 := Lib.hid hZ2.out.inv
        cases nb with
        | false =>
          have e5 : Hid (uBad l k = 5) := Lib.hid (by rw [hb2.out, if_pos hnb.out])
          go_wp2_with (first
            | (go_at_call 143; (with_reducible refine (IsName_any u2 _ hsu.out hnb.out).mono ?_); rintro e w9 ⟨rfl, rfl⟩)
            | (go_at_call 83; first | ((with_reducible refine (outsideZ_b u3 0 5000 _ ho1.out).mono ?_); rintro e w9 ⟨rfl, rfl⟩) | ((with_reducible refine (outsideZ_b u4 1 1000000 _ ho2.out).mono ?_); rintro e w9 ⟨rfl, rfl⟩) | fail)
            | fail)
          go_ret2
          exact ⟨none, 0, φ, by rw [lyr_err (frm_stop hn.out hl hlt hok.out e5.out (by decide)) (by decide)]; rfl, by rw [hr]; exact hr ▸ hB9.out, by rw [lyr_err (frm_stop hn.out hl hlt hok.out e5.out (by decide)) (by decide)]; exact SlV.empty _⟩
        | true =>
          have HN : Hid (¬ nameB u2 = false) := Lib.hid (by rw [hnb.out]; simp)
          cases o1 with
          | true =>
            have e5 : Hid (uBad l k = 1) := Lib.hid (by rw [hb2.out, if_neg HN.out, if_pos (.inl ho1.out)])
            go_wp2_with (first
              | (go_at_call 143; (with_reducible refine (IsName_any u2 _ hsu.out hnb.out).mono ?_); rintro e w9 ⟨rfl, rfl⟩)
              | (go_at_call 83; first | ((with_reducible refine (outsideZ_b u3 0 5000 _ ho1.out).mono ?_); rintro e w9 ⟨rfl, rfl⟩) | ((with_reducible refine (outsideZ_b u4 1 1000000 _ ho2.out).mono ?_); rintro e w9 ⟨rfl, rfl⟩) | fail)
              | fail)
            go_ret2
            exact ⟨none, 0, φ, by rw [lyr_err (frm_stop hn.out hl hlt hok.out e5.out (by decide)) (by decide)]; rfl, by rw [hr]; exact hr ▸ hB9.out, by rw [lyr_err (frm_stop hn.out hl hlt hok.out e5.out (by decide)) (by decide)]; exact SlV.empty _⟩
          | false =>
            cases o2 with
            | true =>
              have e5 : Hid (uBad l k = 1) := Lib.hid (by rw [hb2.out, if_neg HN.out, if_pos (.inr ho2.out)])
              go_wp2_with (first
                | (go_at_call 143; (with_reducible refine (IsName_any u2 _ hsu.out hnb.out).mono ?_); rintro e w9 ⟨rfl, rfl⟩)
                | (go_at_call 83; first | ((with_reducible refine (outsideZ_b u3 0 5000 _ ho1.out).mono ?_); rintro e w9 ⟨rfl, rfl⟩) | ((with_reducible refine (outsideZ_b u4 1 1000000 _ ho2.out).mono ?_); rintro e w9 ⟨rfl, rfl⟩) | fail)
                | fail)
              go_ret2
              exact ⟨none, 0, φ, by rw [lyr_err (frm_stop hn.out hl hlt hok.out e5.out (by decide)) (by decide)]; rfl, by rw [hr]; exact hr ▸ hB9.out, by rw [lyr_err (frm_stop hn.out hl hlt hok.out e5.out (by decide)) (by decide)]; exact SlV.empty _⟩
            | false =>
              have e5 : Hid (uBad l k = 0) := Lib.hid (by rw [hb2.out, if_neg HN.out, if_neg (by rw [ho1.out, ho2.out]; simp)])
              go_upto_region 15 with (first
                | (go_at_call 143; (with_reducible refine (IsName_any u2 _ hsu.out hnb.out).mono ?_); rintro e w9 ⟨rfl, rfl⟩)
                | (go_at_call 83; first | ((with_reducible refine (outsideZ_b u3 0 5000 _ ho1.out).mono ?_); rintro e w9 ⟨rfl, rfl⟩) | ((with_reducible refine (outsideZ_b u4 1 1000000 _ ho2.out).mono ?_); rintro e w9 ⟨rfl, rfl⟩) | fail)
                | fail)
              have hX : Hid (stU (l.take k) u2 = stU (l.take k) u2) := Lib.hid rfl
              obtain ⟨xs, hX⟩ : ∃ xs, Hid (stU (l.take k) u2 = xs) := ⟨_, Lib.hid rfl⟩
              have hxl : xs.length ≤ 5000 := by rw [← hX.out]; have := stU_len (l.take k) u2; rw [List.length_take] at this; omega
              have hZA : Hid (LzS w φ r hd (fun x => stU (l.take k) x) (wj.alloc (.cells #[.int .i64 u1, .string u2, .int .i64 u3, .int .i64 u4] 64)).drew) := Lib.hid ((hZ2.out.callB ((Below.refl _ _).alloc (Nat.le_refl _) _)).callB (bdrewN (Below.refl _ _) 1))
              have hKA : Hid (Blk (wj.alloc (.cells #[.int .i64 u1, .string u2, .int .i64 u3, .int .i64 u4] 64)).drew bj #[.int .i64 u1, .string u2, .int .i64 u3, .int .i64 u4] 64) := Lib.hid ((hKj.out.alloc _).drewN 1)
              obtain ⟨ga, gc, hlk, how, hhd⟩ := hZA.out.g.look Tryz.underlying187 Tryz.underlying9 zeroUs u2
              have HHD := Lib.hid hhd
              rw [hX.out] at hlk how
              have halr : (wj.alloc (.cells #[.int .i64 u1, .string u2, .int .i64 u3, .int .i64 u4] 64)).drew.heap[r]? = wj.heap[r]? := ((Below.refl wj.heap.size wj).alloc (Nat.le_refl _) _).block r hZ2.out.g.lt
              have l1 : (Instr.lookup 187 (.map (some r)) (.string u2) false).run Tryz.prog wj = .ok (.slice ga xs.length gc) wj := hlk wj halr.symm
              have l2 : (Instr.lookup 187 (.map (some r)) (.string u2) false).run Tryz.prog wj.drew = .ok (.slice ga xs.length gc) wj.drew := hlk wj.drew halr.symm
              have l3 : (Instr.lookup 187 (.map (some r)) (.string u2) false).run Tryz.prog (wj.alloc (.cells #[.int .i64 u1, .string u2, .int .i64 u3, .int .i64 u4] 64)).drew = .ok (.slice ga xs.length gc) (wj.alloc (.cells #[.int .i64 u1, .string u2, .int .i64 u3, .int .i64 u4] 64)).drew := hlk _ rfl
              have HLK := Lib.hid hlk
              have HIA := Lib.hid hZA.out.inv
              have HOA := Lib.hid how
              have HRU := Lib.hid (fun φ => rep_unt φ (u1, u2, u3, u4))
              obtain ⟨y0, y1, y2, y3⟩ : wj.cell? ⟨bj, 0, none⟩ = some (.int .i64 u1) ∧ wj.cell? ⟨bj, 1, none⟩ = some (.string u2) ∧ wj.cell? ⟨bj, 2, none⟩ = some (.int .i64 u3) ∧ wj.cell? ⟨bj, 3, none⟩ = some (.int .i64 u4) := ⟨hKj.out.cell 0, hKj.out.cell 1, hKj.out.cell 2, hKj.out.cell 3⟩
              have d0 : wj.drew.cell? ⟨bj, 0, none⟩ = some (.int .i64 u1) := y0
              have d1 : wj.drew.cell? ⟨bj, 1, none⟩ = some (.string u2) := y1
              have d2 : wj.drew.cell? ⟨bj, 2, none⟩ = some (.int .i64 u3) := y2
              have d3 : wj.drew.cell? ⟨bj, 3, none⟩ = some (.int .i64 u4) := y3
              have a1 : (wj.alloc (.cells #[.int .i64 u1, .string u2, .int .i64 u3, .int .i64 u4] 64)).drew.cell? ⟨bj, 1, none⟩ = some (.string u2) := hKA.out.cell 1
              have hgr : Hid (some r ≠ ga.map (·.block) ∧ some bj ≠ ga.map (·.block)) := Lib.hid (by
                rcases hhd with h | ⟨_, e, _⟩
                · refine ⟨fun e => ?_, fun e => ?_⟩
                  · cases ga with
                    | none => cases e
                    | some x => exact (hZA.out.g.nm u2 _ x h rfl).1 (Option.some.inj e).symm
                  · cases ga with
                    | none => cases e
                    | some x => exact hnbj.out u2 _ x h rfl (Option.some.inj e).symm
                · rw [e]; exact ⟨(fun e => by cases e), (fun e => by cases e)⟩)
              clear hlk how hhd halr
              go_region_law (first
                | (refine step_appF (α := Unt) (by rfl) _ _ _ (by rfl) slUn HIA.out ga gc xs (by rfl) HOA.out ⟨wj.heap.size, 0, none⟩ 1 [(u1, u2, u3, u4)] [.int .i64 u1, .string u2, .int .i64 u3, .int .i64 u4] 1 (by rfl) (by rfl) (RepL.single (HRU.out _)) (World.news_of_block (cs := #[.int .i64 u1, .string u2, .int .i64 u3, .int .i64 u4]) (t := 64) (fr := (0, 0)) (heap_alloc_new wj _)) (by show (xs.length + 1) * 40 ≤ 140737488355328; omega) ?_; intro a7 c7 w7 hi7 ho7 hg7 hf7; obtain ⟨o, hup, hM⟩ := hZA.out.g.put Tryz.underlying187 Tryz.underlying9 (by rw [hX.out] at HHD ⊢; exact HHD.out) (n := xs.length + 1) (by simp) ho7 hg7 hf7 (fun b hb => hb.elim); have hu7 : (Instr.mapUpdate 187 (.map (some r)) (.string u2) (.slice a7 (xs.length + 1) c7)).run Tryz.prog w7 = .ok () (setMap w7 r o) := hup w7 (hg7.block r hZA.out.g.lt hgr.out.1); have hb7 : Blk w7 bj #[.int .i64 u1, .string u2, .int .i64 u3, .int .i64 u4] 64 := (hg7.block bj hKA.out.lt hgr.out.2).trans hKA.out; have b1 : w7.cell? ⟨bj, 1, none⟩ = some (.string u2) := hb7.cell 1; clear hb7; have HZ7 : Hid (LzS w φ r (updK hd u2 (some ⟨a7, xs.length + 1, c7⟩)) (updK (fun x => stU (l.take k) x) u2 (xs ++ [(u1, u2, u3, u4)])) (setMap w7 r o)) := Lib.hid ⟨hi7.write hZA.out.g.lo hZA.out.g.fr (setMap_grown w7 r o), hM⟩; clear hup hM hi7 ho7 hg7 hf7)
                | fail)
              all_goals
                clear hu7 b1 l1 l2 l3 d0 d1 d2 d3 a1 y0 y1 y2 y3
                generalize setMap w7 r o = w8 at *
                have hZ9 : Hid (LzS w φ r (updK hd u2 (some ⟨a7, xs.length + 1, c7⟩)) (fun x => stU (l.take (k + 1)) x) w8) := Lib.hid (by
                  rw [htk.out, stu_step, hX.out]
                  exact HZ7.out)
                have hky2 : Hid (∀ x, updK hd u2 (some ⟨a7, xs.length + 1, c7⟩) x = none ↔ stU (l.take (k + 1)) x = []) := Lib.hid (by
                  rw [htk.out]
                  exact keyS_step (u := (u1, u2, u3, u4)) hky.out)
                clear HZ7
                go_wp2
                go_roundw
                case rel => exact ⟨k + 1, _, by omega, by go_num, next_ok hok e5.out, hky2, hZ9⟩
                case measure => (simp [intOf] <;> omega)
    · obtain rfl : n = k := by omega
      have ex : l.take n = l := by rw [← hn.out, List.take_length]
      rw [ex] at hky hZ
      have hfe := Lib.hid (frm_end hn.out hl hok.out)
      obtain ⟨o, M, m1, m2, m3⟩ := hZ.out.g.map
      obtain ⟨n1, n2, n3⟩ := keys_nms m2 m3 hky.out
      obtain ⟨q, hq⟩ : ∃ q, Hid ((nmsL l).length = q) := ⟨_, Lib.hid rfl⟩
      rw [hq.out] at hfe n1
      have hq5 : q ≤ 5000 := by rw [← hq.out]; have := nms_len l; rw [hn.out] at this; omega
      have hMS : Hid (∀ p ∈ M, p.1.size ≤ maxLen) := Lib.hid (fun p hp => by
        obtain ⟨u, hu, e⟩ := mem_nmsL.1 (n3 p hp)
        have := hs.out u hu
        rw [← e]
        unfold reachBytes at this
        unfold maxLen
        omega)
      have hlen : ∀ ty, (Builtin.len_ #[187] ty #[.map (some r)]).run Tryz.prog wr = .ok (.int .i64 (q : Int)) wr := fun ty => by
        obtain ⟨D, d1, _, d3⟩ := m2.owns_str (P := Tryz.prog) m1 Tryz.underlying9 (by unfold maxLen; omega) hMS.out
        have h := d1.len Tryz.underlying187 ty
        rw [d3, n1] at h
        exact h
      by_cases h40 : 40 < q
      · have g4 : decide ((q : Int) > 40) = true := decide_eq_true (by omega)
        have H4 : Hid (lyrR l = ([], 2)) := Lib.hid (lyr_err (by rw [hfe.out, if_pos h40]) (by decide))
        have hB9 := Lib.hid hZ.out.inv
        clear h40 hfe hZ m2 m3 n2 n3 hMS
        go_wp2
        go_ret2
        exact ⟨none, 0, φ, by rw [H4.out]; rfl, by rw [hr]; exact hr ▸ hB9.out, by rw [H4.out]; exact SlV.empty _⟩
      have g4 : decide ((q : Int) > 40) = false := decide_eq_false (by omega)
      have hq40 : q ≤ 40 := by omega
      have H0 : Hid (frmU l = 0) := Lib.hid (by rw [hfe.out, if_neg h40])
      have hR : Hid (lyrR l = ((nmsL l).map (lyrF l), 0)) := Lib.hid (by unfold lyrR; rw [H0.out, if_neg (by simp)])
      have hall := Lib.hid (frm_ok H0.out).2.2
      obtain ⟨φ1, hle1, hI1, hG1⟩ := hZ.out.g.frzQ hZ.out.inv
      have HI1 := Lib.hid hI1
      have HG1 := Lib.hid hG1
      have HM2 := Lib.hid m2
      have HM1 := Lib.hid m1
      have hML : Hid (M.length ≤ 20000) := Lib.hid (by omega)
      obtain ⟨ns, hnn⟩ : ∃ ns, Hid (nmsL l = ns) := ⟨_, Lib.hid rfl⟩
      rw [hnn.out] at hq
      have hns : Hid ((risT (M.map (fun p => btT p.1))).map ofT = ns) := Lib.hid (by rw [n2, hnn.out])
      clear h40 hfe hZ m2 m3 n2 n3 hI1 hG1 hle1
      go_wp2_with (first
        | (go_at_call 145; (with_reducible refine (KeysS_any _ _).mono ?_); rintro e w5 ⟨rfl, rfl⟩)
        | (go_at_call 144; (with_reducible refine (SortedS_any HI1.out.fz HM2.out HM1.out hML.out hMS.out hns).mono ?_); rintro e w6 ⟨a6, c6, φ6, rfl, hi6, s6⟩; rw [hq.out])
        | fail)
      have hI6 := Lib.hid ((HI1.out.alloc (.cells #[.map (some r)] 187)).call hi6)
      have hG6 := Lib.hid (HG1.out.mono hi6.le)
      have hX0 : Hid (LxS w φ none 0 [] φ6 w6) := Lib.hid ⟨hI6.out, Own.nil _ _ _ _⟩
      have HS6 := Lib.hid s6
      clear hi6 HI1 HG1 hI6
      go_loopw [7, 71] (fun v7 i wq => ∃ (k : Nat) (ao : Option Addr) (co : Nat) (xs : List Lyr) (φk : Phi), k ≤ q ∧ i = .int .i64 k ∧ v7 = .slice ao xs.length co ∧ Hid ((ns.take k).map (lyrF l) = xs) ∧ Hid (φ6.le φk) ∧ Hid (LxS w φ ao co xs φk wq)) (fun _ i _ => q - (intOf i).toNat)
      case atStart => exact ⟨0, none, 0, [], φ6, Nat.zero_le _, rfl, rfl, Lib.hid rfl, Lib.hid φ6.le_refl, hX0⟩
      case round =>
        clear hX0
        rename World => wq
        obtain ⟨k, ao, co, xs, φk, hk, rfl, rfl, hxs, hlk6, hX⟩ := hrel
        by_cases hlt : k < q
        · obtain ⟨b', off', rfl, f⟩ := s6.strsD hq hlt
          obtain ⟨hb', d1⟩ := f k hlt wq (hX.out.inv.fz.sub hlk6.out)
          have htk := Lib.hid (take_snocD ByteArray.empty ns k q hq.out hlt)
          clear f
          generalize ns.getD k ByteArray.empty = z at *
          have hnx : Hid ((ns.take (k + 1)).map (lyrF l) = xs ++ [lyrF l z]) := Lib.hid (by rw [htk.out, List.map_append, hxs.out]; rfl)
          have hxl : xs.length ≤ 40 := by rw [← hxs.out, List.length_map, List.length_take]; omega
          obtain ⟨us, hus⟩ : ∃ us, Hid (stU l z = us) := ⟨_, Lib.hid rfl⟩
          have hul : Hid (us.length ≤ 5000) := Lib.hid (by rw [← hus.out]; exact Nat.le_trans (stU_len l z) (by rw [hn.out]; exact hl))
          have huk : Hid (∀ u ∈ us, (0 ≤ u.2.2.1 ∧ u.2.2.1 ≤ 5000) ∧ 1 ≤ u.2.2.2 ∧ u.2.2.2 ≤ 1000000) := Lib.hid (fun u hu => by
            rw [← hus.out] at hu
            exact (hall.out u (stU_mem hu)).2)
          obtain ⟨ga, gc, hlk, hsl⟩ := hG6.out.look Tryz.underlying187 Tryz.underlying9 zeroUs z
          rw [hus.out] at hlk hsl
          have l1 : (Instr.lookup 187 (.map (some r)) (.string z) false).run Tryz.prog wq = .ok (.slice ga us.length gc) wq := hlk wq (hX.out.inv.fz.sub hlk6.out)
          have SU := Lib.hid (hsl.mono hlk6.out)
          obtain ⟨sz, hsz2⟩ : ∃ sz, Hid (szU us = sz) := ⟨_, Lib.hid rfl⟩
          obtain ⟨cl, hcl⟩ : ∃ cl, Hid ((cnsL us).map (cluF us) = cl) := ⟨_, Lib.hid rfl⟩
          obtain ⟨nc, hnc⟩ : ∃ nc, Hid ((cnsL us).length = nc) := ⟨_, Lib.hid rfl⟩
          have hly : Hid (lyrF l z = (z, us, sz, cl)) := Lib.hid (by unfold lyrF; rw [hus.out, hsz2.out, hcl.out])
          rw [hly.out] at hnx
          have hcn : Hid (cl.length = nc) := Lib.hid (by rw [← hcl.out, List.length_map, hnc.out])
          clear hlk hsl htk
          go_wp2_with (first
            | (go_at_call 146; (with_reducible refine (layerOf_any hX.out.inv.fz SU.out (Lib.hid rfl) hul.out z huk).mono ?_); rintro e w7 ⟨aC, cC, φ7, rfl, hi7, s7⟩; rw [hsz2.out, hnc.out]; rw [hcl.out] at s7; have hX7 := Lib.hid (hX.out.call hi7); have hL7 := Lib.hid (hlk6.out.trans hi7.le); have hin := hX7.out.inv; have hon := hX7.out.own; have HRP : Hid (Rep.rep φ7 ((z, us, sz, cl) : Lyr) [.string z, .slice ga us.length gc, .int .i64 sz, .slice aC nc cC]) := Lib.hid ⟨[.string z], [.slice ga us.length gc, .int .i64 sz, .slice aC nc cC], rfl, rfl, [.slice ga us.length gc], [.int .i64 sz, .slice aC nc cC], rfl, ⟨ga, gc, rfl, SU.out.mono hi7.le⟩, [.int .i64 sz], [.slice aC nc cC], rfl, rfl, ⟨aC, cC, by rw [hcn.out], s7⟩⟩; clear hi7 s7)
            | (at_builtin; refine wpList_app1 (α := Lyr) rfl _ _ 88 rfl slLy hin ao co _ hon _ _ (z, us, sz, cl) HRP.out rfl 1 rfl (by omega) ?_; intro a8 c8 w8 hi8 ho8 hg8)
            | fail)
          have hX8 : Hid (LxS w φ a8 c8 (xs ++ [(z, us, sz, cl)]) φ7 w8) := Lib.hid ⟨hi8, ho8⟩
          clear hi8 ho8 hg8 hin hon
          go_roundw
          case rel => exact ⟨k + 1, a8, c8, xs ++ [(z, us, sz, cl)], φ7, by omega, by go_num, by simp, hnx, hL7, hX8⟩
          case measure => (simp [intOf] <;> omega)
        · obtain rfl : q = k := by omega
          have ey : ns.take q = ns := by rw [← hq.out, List.take_length]
          rw [ey] at hxs
          go_wp2
          go_ret2
          obtain ⟨φ', hle, hi, hsl, _⟩ := hX.out.own.release hX.out.inv
          exact ⟨ao, co, φ', by rw [hR.out, hnn.out, hxs.out]; rfl, by rw [hr]; exact hr ▸ hi, by rw [hR.out, hnn.out, hxs.out]; exact hsl⟩
end Go.Proofs.YtnlhalnjbkpdnaaGreatDoor
