/- The reference's natural numbers: the walks of over and common. The reference's natural numbers: the walk of common. Conditions: none beyond what the claim form gives. -/
import Derived.Test.YtmlpjffnmkndoaaGreatDoorBB
import Derived.Test.YtmlpjffnmkndoaaGreatDoorB11
namespace Go.Proofs.YtmlpjffnmkndoaaGreatDoor
open Go.RowKit
set_option linter.unusedVariables false
set_option linter.unusedSimpArgs false
theorem SlV.dropI {φ : Phi} {b off cap : Nat} {xs : List Nat} (h : SlV φ (some ⟨b, off, none⟩) cap xs) {k : Nat} (hk : k ≤ xs.length) : SlV φ (some ⟨b, off + k, none⟩) (cap - k) (xs.drop k) := by
 have h1 := h.capn; have h2 := h.capm
 refine ⟨by rw [List.length_drop]; omega, by omega, (fun e => by cases e), fun hne => ?_⟩
 obtain ⟨b', off', ha, hc⟩ := h.at_ (by intro e; subst e; simp at hne)
 cases ha
 refine ⟨b, off + k, rfl, fun j hj => ?_⟩
 rw [List.length_drop] at hj
 obtain ⟨cs, h3, h4⟩ := hc (k + j) (by omega)
 refine ⟨cs, by rw [List.getElem_drop]; exact h3, fun i hi => ?_⟩
 rw [← h4 i hi]
 congr 2
 show off + k + j * 1 + i = off + (k + j) * 1 + i
 omega
theorem wpList_appsF {α : Type} [Rep α] {P : Program} {w : World} {ops : Array Oper} {rest : List Oper} {o : Oper} {act : Act} {Q : Exit → Act → World → Prop} (hgd : o.guard = none) (s x : Operand) (T : TypeId)
    (ho : o.op = .call { callee := .builtin .append, args := #[s, x], argTypes := #[T, T] })
    {E : TypeId} {z : Value} {bytes : Nat} (st : SliceTy P T E z (Rep.size α) bytes) {B : Nat} {w0 : World} {φ0 φ : Phi} (hi : Inv B w0 φ0 φ w)
    (a : Option Addr) (cap : Nat) (xs : List α) (hown : Own B φ w E a cap xs) (a2 : Option Addr) (cap2 : Nat) (ys : List α) (hsl : SlV φ a2 cap2 ys) (n m : Nat) (hn : Hid (xs.length = n)) (hm : Hid (ys.length = m))
    (hs : act.eval s = .slice a n cap) (hx : act.eval x = .slice a2 m cap2) (hbound : (n + m) * bytes ≤ 140737488355328)
    (h : ∀ a' cap' w', Inv B w0 φ0 φ w' → Own B φ w' E a' cap' (xs ++ ys) → w.grownBy w' (a.map (·.block)) → (∀ x, a' = some x → a.map (·.block) = some x.block ∨ w.heap.size ≤ x.block) → wpList P ops Q rest (act.put o.dst (.slice a' (n + m) cap')) w') : wpList P ops Q (o :: rest) act w := by
  obtain rfl := hn.out
  obtain rfl := hm.out
  cases a2 with
  | some ad =>
    obtain ⟨news, h1, h2⟩ := hsl.news
    refine wpList_appF hgd s x T ho st hi a cap xs hs hown ad cap2 ys news _ hx rfl h1 (fun j u hu => hi.fz.cell (h2 j u hu)) hbound (fun a' cap' w' q1 q2 q3 q4 => ?_)
    rw [List.length_append]; exact h a' cap' w' q1 q2 q3 q4
  | none =>
    have hc := hsl.nil rfl
    have hy : ys = [] := List.eq_nil_of_length_eq_zero (by have := hsl.capn; omega)
    subst hy
    subst hc
    obtain ⟨cells, hrow, hr⟩ := hown.row
    obtain ⟨i, i1, i2, i3, i4⟩ := info_parts st.info
    refine wpList_append_own_none hgd s x T ho B E i (Rep.size α) st.und i1 _ _ cells hs hrow hx ?_
    have := h a cap w hi (by rw [List.append_nil]; exact hown) ⟨rfl, rfl, rfl, Nat.le_refl _, fun _ _ _ => rfl⟩ (fun x hx => .inl (by rw [hx]; rfl))
    exact this
/-- The highest limbs of a number are a number's. -/
theorem limbs_drop {m k : Nat} : limbs (LV ((limbs m).drop k)) = (limbs m).drop k := by
 refine limbs_LV ((limbs_lim m).drop k) (fun h => ?_)
 have h1 : limbs m ≠ [] := fun e => h (by rw [e]; simp)
 have h2 := limbs_top h1
 rw [List.getLast_drop]
 exact h2
theorem row_ne {a' : Option Addr} {g s : Nat} {o : Option Addr} (hf : ∀ x, a' = some x → o.map (·.block) = some x.block ∨ s ≤ x.block) (h1 : g < s) (h2 : ∀ y, o = some y → y.block ≠ g) : ∀ x y, a' = some x → (some (⟨g, 0, none⟩ : Addr)) = some y → x.block ≠ y.block := by
  intro x y hx hy e
  cases hy
  rcases hf x hx with h | h
  · cases o with
    | none => cases h
    | some z =>
      injection h with h
      exact h2 z rfl (h.trans e)
  · have e' : x.block = g := e
    omega
/-- One of two rows of the call's own is released. -/
theorem Own.relOther {α β : Type} [Rep α] [Rep β] {B : Nat} {w0 w : World} {φ0 φ : Phi} {E F : TypeId} {a a2 : Option Addr} {c c2 : Nat} {xs : List α} {ys : List β} (h : Own B φ w E a c xs) (hi : Inv B w0 φ0 φ w) (q : Own B φ w F a2 c2 ys) (hne : ∀ x y, a = some x → a2 = some y → x.block ≠ y.block) :
    ∃ φ', φ.le φ' ∧ Inv B w0 φ0 φ' w ∧ SlV φ' a c xs ∧ Own B φ' w F a2 c2 ys := by
  obtain ⟨φ', hl, hi', hs, hb⟩ := h.release hi
  refine ⟨φ', hl, hi', hs, ?_⟩
  obtain ⟨⟨cells, hr, hL⟩, hf⟩ := q
  refine ⟨⟨cells, hr, hL.mono hl⟩, fun y hy => ?_⟩
  rw [hb _ (fun e => ?_)]
  · exact hf y hy
  · cases a with
    | none => cases e
    | some x =>
      injection e with e
      exact hne x y rfl hy e.symm
/-- The loop over the quotient's digits. -/
structure RoS (w0 : World) (φ0 : Phi) (g c : Nat) (qs : List Nat) (ar : Option Addr) (cr : Nat) (r : Nat) (φ : Phi) (w : World) : Prop where
 inv : Inv w0.heap.size w0 φ0 φ w
 q : Own w0.heap.size φ w 3 (some ⟨g, 0, none⟩) c qs
 r : SlV φ ar cr (limbs r)
section
variable {w0 w w' : World} {φ0 φ φ' : Phi} {g c cr r : Nat} {qs : List Nat} {ar : Option Addr}
theorem RoS.call (h : RoS w0 φ0 g c qs ar cr r φ w) (hi : Inv w.heap.size w φ φ' w') : RoS w0 φ0 g c qs ar cr r φ' w' := ⟨h.inv.call hi, h.q.call hi, h.r.mono hi.le⟩
theorem RoS.callB (h : RoS w0 φ0 g c qs ar cr r φ w) (hb : Below w.heap.size w w') : RoS w0 φ0 g c qs ar cr r φ w' := ⟨h.inv.callB hb, h.q.callB hb, h.r⟩
end
/-- The lowest limb taken off the dividend's rest. -/
structure RoI (A qs : List Nat) (n i r : Nat) : Prop where
 lt : r < n
 eq : LV (A.drop i) = n * LV (qs.drop i) + r
theorem RoI.start {A : List Nat} {n k1 k2 q : Nat} (hA : Lim A) (hk : A.length = k1) (h2 : (limbs n).length = k2) (h0 : 0 < k2) (h : k2 ≤ k1) : RoI A (List.replicate (k1 - k2 + 1) q) n (k1 - k2 + 1) (LV (A.drop (k1 - k2 + 1))) := by
 refine ⟨?_, ?_⟩
 ·have h1 := LV_lt (hA.drop (k1 - k2 + 1))
  rw [List.length_drop, hk] at h1
  have h3 := limbs_ge (n := n) (k := k2 - 1) (by omega)
  have h4 : lb ^ (k1 - (k1 - k2 + 1)) ≤ lb ^ (k2 - 1) := Nat.pow_le_pow_right lb_pos (by omega)
  omega
 ·have e : (List.replicate (k1 - k2 + 1) q).drop (k1 - k2 + 1) = ([] : List Nat) := List.drop_of_length_le (by simp)
  rw [e]; simp [LV]
theorem RoI.next {A qs : List Nat} {n i r x : Nat} (h : RoI A qs n (i + 1) r) (hn : 0 < n) (hA : i < A.length) (hq : i < qs.length) (hx : A.getD i 0 = x) : RoI A (qs.set i ((x + lb * r) / n)) n i ((x + lb * r) % n) := by
 refine ⟨Nat.mod_lt _ hn, ?_⟩
 rw [LV_drop A i hA, h.eq, hx, LV_set_drop qs hq]
 have e := Nat.div_add_mod (x + lb * r) n
 have e1 : n * ((x + lb * r) / n + lb * LV (qs.drop (i + 1))) = n * ((x + lb * r) / n) + n * (lb * LV (qs.drop (i + 1))) := Nat.mul_add _ _ _
 have e2 : lb * (n * LV (qs.drop (i + 1)) + r) = lb * (n * LV (qs.drop (i + 1))) + lb * r := Nat.mul_add _ _ _
 have e4 : lb * (n * LV (qs.drop (i + 1))) = n * (lb * LV (qs.drop (i + 1))) := Nat.mul_left_comm _ _ _
 omega
theorem RoI.skip {A qs : List Nat} {n i r x : Nat} (h : RoI A qs n (i + 1) r) (hA : i < A.length) (hq : i < qs.length) (hx : A.getD i 0 = x) (hz : qs.getD i 0 = 0) (hlt : x + lb * r < n) : RoI A qs n i (x + lb * r) := by
 refine ⟨hlt, ?_⟩
 rw [LV_drop A i hA, h.eq, hx, LV_drop qs i hq, hz]
 have e2 : lb * (n * LV (qs.drop (i + 1)) + r) = lb * (n * LV (qs.drop (i + 1))) + lb * r := Nat.mul_add _ _ _
 have e4 : lb * (n * LV (qs.drop (i + 1))) = n * (lb * LV (qs.drop (i + 1))) := Nat.mul_left_comm _ _ _
 rw [Nat.zero_add]
 omega
set_option maxRecDepth 100000 in
set_option maxHeartbeats 8000000 in
theorem Rover_any {M : Nat} (hM : LenB M) {m n k1 k2 : Nat} {a1 a2 : Option Addr} {c1 c2 : Nat} {w : World} {φ : Phi} (hφ : Fz φ w) (s1 : SlV φ a1 c1 (limbs m)) (s2 : SlV φ a2 c2 (limbs n)) (h1 : Hid ((limbs m).length = k1)) (h2 : Hid ((limbs n).length = k2)) (hm9 : m ≤ M) (hn99 : n ≤ M) (hn0 : 0 < n) :
  Calls Tryz.prog 100 #[.slice a1 k1 c1, .slice a2 k2 c2] w (DivI (m / n) (m % n) φ w) := by
 have hk1 : k1 ≤ 1000000000 := by rw [← h1.out]; exact hM.len hm9
 have hk2 : k2 ≤ 1000000000 := by rw [← h2.out]; exact hM.len hn99
 obtain ⟨q, hq⟩ : ∃ q, Hid (cmpN m n = q) := ⟨_, Lib.hid rfl⟩
 have HF := Lib.hid hφ
 have S1 := Lib.hid s1
 have S2 := Lib.hid s2
 have hcap : k1 ≤ c1 := by rw [← h1.out]; exact s1.capn
 have hcm : c1 ≤ 9223372036854775807 := s1.capm
 clear s1 s2 hφ
 by_cases hlt : m < n
 ·have hq1 : q = -1 := by rw [← hq.out, cmpN, if_pos hlt]
  subst hq1
  have e1 : Hid (m / n = 0 ∧ m % n = m) := Lib.hid ⟨Nat.div_eq_of_lt hlt, Nat.mod_eq_of_lt hlt⟩
  go_enter Tryz.func100, Tryz.ntmps100
  go_wp2_with (go_at_call 84; refine (Rorder_any HF.out S1.out S2.out h1 h2 (by omega) (by omega) hq).mono ?_; rintro e w' ⟨rfl, hb⟩)
  go_ret2
  rename World => w'
  refine ⟨none, 0, a1, c1, φ, ?_, (Inv.start HF.out).callB (by assumption), ?_, ?_⟩
  ·rw [e1.out.1, e1.out.2, limbs_zero, h1.out]; rfl
  ·rw [e1.out.1, limbs_zero]; exact SlV.empty φ
  ·rw [e1.out.2]; exact S1.out
 have hq1 : 0 ≤ q := by rw [← hq.out, cmpN, if_neg hlt]; split <;> omega
 have hqn : ¬ q < 0 := by omega
 have hk21 : k2 ≤ k1 := by rw [← h1.out, ← h2.out]; exact limbs_mono (by omega)
 have hk20 : 0 < k2 := by
  rcases Nat.eq_zero_or_pos k2 with e | e
  ·have := limbs_len0.1 (by rw [h2.out]; exact e : (limbs n).length = 0); omega
  ·exact e
 have hLA := Lib.hid (limbs_lim m)
 have hMA : Hid (LV (limbs m) = m) := Lib.hid (LV_limbs m)
 obtain ⟨K, hK⟩ : ∃ K, K = k1 - k2 + 1 := ⟨_, rfl⟩
 have hst := Lib.hid (RoI.start (q := 0) hLA.out h1.out h2.out hk20 hk21)
 rw [← hK] at hst
 have hKi : Hid ((k1 : Int) - (k2 : Int) + 1 = (K : Int)) := Lib.hid (by omega)
 have hK1 : K ≤ k1 := by omega
 have hK2 : k1 < K + k2 := by omega
 have hK3 : K + k2 ≤ k1 + 1 := by omega
 obtain ⟨b, off, rfl, f⟩ := S1.out.natI h1 (k := 0) (by omega)
 have hA := Lib.hid (fun (j : Nat) (hj : j < k1) w (hw : Fz φ w) => (f j hj w hw).2)
 obtain ⟨r0, hr0⟩ : ∃ r0, LV ((limbs m).drop K) = r0 := ⟨_, rfl⟩
 have hD : (limbs m).drop K = limbs r0 := by rw [← hr0, limbs_drop]
 rw [hr0] at hst
 have hdl := Lib.hid (show (limbs r0).length = k1 - K by rw [← hD, List.length_drop, h1.out])
 have hKs : Hid ((List.replicate K 0).length = K) := Lib.hid (by simp)
 have hnl : Hid (([] : List Nat).length = 0) := Lib.hid rfl
 clear f hlt hK hr0
 by_cases hcc : K = c1
 ·subst hcc
  have hr00 : Hid (limbs r0 = []) := Lib.hid (by
   rw [← hD]; exact List.drop_of_length_le (by rw [h1.out]; omega))
  clear hD
  go_enter Tryz.func100, Tryz.ntmps100
  go_upto_region 4 with (go_at_call 84; refine (Rorder_any HF.out S1.out S2.out h1 h2 (by omega) (by omega) hq).mono ?_; rintro e w1 ⟨rfl, hb⟩; have HI := Lib.hid ((Inv.start HF.out).callB hb); clear hb)
  rw [hKi.out]
  go_wp2_with (at_make; (refine wpList_mkn (α := Nat) rfl _ _ 34 rfl slNatI HI.out _ _ K 0 (fun _ => rfl) rfl rfl rfl (by omega) ?_; intro w8 hi8 ho8 hg8))
  have hO : Hid (RoS w φ w1.heap.size K (List.replicate K 0) (some ⟨w8.heap.size, 0, none⟩) 0 r0 φ (w8.alloc (.cells #[] 3))) := Lib.hid ⟨hi8.alloc _, ho8.alloc _, by rw [hr00.out]; exact ⟨by simp, by simp [maxLen], (fun e => by cases e), fun h => absurd rfl h⟩⟩
  have hk0 : Hid ((limbs r0).length = 0) := Lib.hid (by rw [hr00.out]; rfl)
  clear hi8 ho8 hg8
  obtain ⟨gq, hgq⟩ : ∃ gq, w1.heap.size = gq := ⟨_, rfl⟩
  rw [hgq] at hO ⊢
  clear hgq
  go_loopw [8, 9] (fun rv iv wr => ∃ (i r kr : Nat) (ar : Option Addr) (cr : Nat) (qs : List Nat) (φ' : Phi), i ≤ K ∧ iv = .int .i64 ((i : Int) - 1) ∧ rv = .slice ar kr cr ∧ Hid ((limbs r).length = kr) ∧ Hid (qs.length = K) ∧ Hid (Lim qs) ∧ Hid (∀ j, j < i → qs.getD j 0 = 0) ∧ Hid (RoI (limbs m) qs n i r) ∧ Hid (RoS w φ gq K qs ar cr r φ' wr)) (fun _ iv _ => (intOf iv + 1).toNat)
  case atStart => exact ⟨K, r0, 0, (some ⟨w8.heap.size, 0, none⟩), 0, List.replicate K 0, φ, Nat.le_refl _, rfl, rfl, by first | exact hk0 | exact hdl, hKs, Lib.hid (Lim.zeros K), Lib.hid (fun j _ => by rw [List.getD_eq_getElem?_getD, List.getElem?_replicate]; split <;> rfl), hst, hO⟩
  case round =>
   clear hO hst
   obtain ⟨i, r, kr, ar, cr, qs, φ', hi, rfl, rfl, hkr, hql, hqL, hqz, hI, hO⟩ := hrel
   have hkr2 : kr ≤ k2 := by rw [← hkr.out, ← h2.out]; exact limbs_mono (Nat.le_of_lt hI.out.lt)
   by_cases hi0 : i = 0
   ·subst hi0
    have hneg : ¬ (0 : Int) ≤ ((0 : Nat) : Int) - 1 := by omega
    have hdm : Hid (m / n = LV qs ∧ m % n = r) := Lib.hid (by
     have h := hI.out.eq
     rw [List.drop_zero, List.drop_zero, hMA.out] at h
     exact divmod_of hn0 h hI.out.lt)
    obtain ⟨φ9, l9, i9, sq, _⟩ := hO.out.q.release hO.out.inv
    have HSQ := Lib.hid sq
    have HI9 := Lib.hid i9
    have SR := Lib.hid (hO.out.r.mono l9)
    obtain ⟨p2, hp2⟩ : ∃ p, Hid ((limbs (LV qs)).length = p) := ⟨_, Lib.hid rfl⟩
    clear sq i9 l9 hO hI hqz
    go_wp2_with (go_at_call 102; (with_reducible refine (Rtrim_any HI9.out.fz HSQ.out hql (by omega) hqL hp2).mono ?_); rintro e w' ⟨rfl, rfl⟩)
    go_ret2
    refine ⟨some ⟨gq, 0, none⟩, K, ar, cr, φ9, ?_, HI9.out, ?_, ?_⟩
    ·rw [hdm.out.1, hdm.out.2, hp2.out, hkr.out]; rfl
    ·rw [hdm.out.1]; exact HSQ.out.trimI hqL.out rfl
    ·rw [hdm.out.2]; exact SR.out
   ·obtain ⟨j, rfl⟩ : ∃ j, i = j + 1 := ⟨i - 1, by omega⟩
    have hpos : (0 : Int) ≤ ((j + 1 : Nat) : Int) - 1 := by omega
    have hjj : Hid (((j + 1 : Nat) : Int) - 1 = (j : Int)) := Lib.hid (by omega)
    have hto : (((j + 1 : Nat) : Int) - 1).toNat = j := by omega
    have hbd : ((j + 1 : Nat) : Int) - 1 < (k1 : Int) := by omega
    obtain ⟨x, hx⟩ : ∃ x, Hid ((limbs m).getD j 0 = x) := ⟨_, Lib.hid rfl⟩
    have hxl : x < 1000000000 := by rw [← hx.out]; exact hLA.out.getD _
    have d1 := hA.out j (by omega) wr (hO.out.inv.fz.sub hO.out.inv.le)
    rw [hx.out] at d1
    obtain ⟨t, ht⟩ : ∃ t, t = x + lb * r := ⟨_, rfl⟩
    obtain ⟨kt, hkt⟩ : ∃ k, Hid ((limbs t).length = k) := ⟨_, Lib.hid rfl⟩
    have htl : Hid (t < lb * n) := Lib.hid (by
     have h3 : lb * (r + 1) ≤ lb * n := Nat.mul_le_mul_left _ hI.out.lt
     rw [Nat.mul_succ] at h3
     have : x < lb := hxl
     omega)
    have hkt2 : kt ≤ k2 + 1 := by
     rw [← hkt.out, ← h2.out]
     have h3 := limbs_mono (Nat.le_of_lt htl.out)
     have h4 := limbs_mul lb n
     have h5 : (limbs lb).length ≤ 2 := limbs_le (by decide)
     have h6 : (limbs t).length ≤ (limbs n).length + 1 := limbs_le (by
      rw [Nat.pow_succ, Nat.mul_comm]
      exact Nat.lt_of_lt_of_le htl.out (Nat.mul_le_mul_left _ (Nat.le_of_lt (limbs_lt n))))
     exact h6
    have htv : Hid (LV ([x] ++ limbs r) = t) := Lib.hid (by rw [ht, List.singleton_append, LV, LV_limbs])
    have htL : Hid (Lim ([x] ++ limbs r)) := Lib.hid ((Lim.one hxl).append (limbs_lim r))
    have htn : Hid (([x] ++ limbs r).length = 1 + kr) := Lib.hid (by rw [List.length_append, hkr.out]; rfl)
    have hkt3 : Hid ((limbs (LV ([x] ++ limbs r))).length = kt) := Lib.hid (by rw [htv.out]; exact hkt.out)
    have hx1 : Hid (([x] : List Nat).length = 1) := Lib.hid rfl
    have hil := Lib.hid (Own.lit hO.out.inv 3 (xs := [x]) (arr := #[.int .i64 (x : Int)]) (RepL.single (x := x) (cs := [.int .i64 (x : Int)]) rfl) (by simp [maxLen]))
    have hii := Lib.hid (hO.out.inv.alloc (.cells #[.int .i64 (x : Int)] 3))
    have hqa := Lib.hid (hO.out.q.alloc (.cells #[.int .i64 (x : Int)] 3))
    have hgl : Hid (gq < wr.heap.size) := Lib.hid (hO.out.q.lt _ rfl).2
    have hskip := Lib.hid (fun (hlt : t < n) => hI.out.skip (x := x) (by rw [h1.out]; omega) (by rw [hql.out]; omega) hx.out (hqz.out j (by omega)) (by rw [← ht]; exact hlt))
    have hnext := Lib.hid (hI.out.next (x := x) hn0 (by rw [h1.out]; omega) (by rw [hql.out]; omega) hx.out)
    rw [← ht] at hskip hnext
    have hqz2 : Hid (∀ i, i < j → qs.getD i 0 = 0) := Lib.hid (fun i hi => hqz.out i (by omega))
    have SRr := Lib.hid hO.out.r
    clear ht hqz hI hx hO
    obtain ⟨q2, hq2⟩ : ∃ q, Hid (cmpN t n = q) := ⟨_, Lib.hid rfl⟩
    go_upto_region 10 with (first
     | (at_builtin; refine wpList_appsF (α := Nat) rfl _ _ 34 rfl slNatI hii.out _ 1 [x] hil.out _ _ (limbs r) SRr.out 1 kr hx1 hkr rfl rfl (by omega) ?_; intro a7 c7 w7 hi7 ho7 hg7 hf7; obtain ⟨φ7, hl7, hi7', hs7, hq7⟩ := ho7.relOther hi7 (hqa.out.other hg7 (fun x hx e => by cases hx; have := hgl.out; simp at e; omega)) (row_ne hf7 (by have := hgl.out; simp; omega) (fun y hy e => by cases hy; have := hgl.out; simp at e; omega)); have hO7 := Lib.hid (RoS.mk (w0 := w) (φ0 := φ) (r := t) hi7' hq7 (hs7.trimI htL.out htv.out)); have HS7 := Lib.hid hs7; clear hi7 ho7 hg7 hf7 hl7 hi7' hs7 hq7)
     | (go_at_call 102; (with_reducible refine (Rtrim_any hO7.out.inv.fz HS7.out htn (by omega) htL hkt3).mono ?_); rintro e w' ⟨rfl, rfl⟩))
    clear HS7 hil hii hqa hgl d1 htL htn hkt3 htv SRr
    by_cases htn2 : t < n
    ·have hq3 : q2 = -1 := by rw [← hq2.out, cmpN, if_pos htn2]
     subst hq3
     go_wp2_with (go_at_call 84; (with_reducible refine (Rorder_any hO7.out.inv.fz hO7.out.r (S2.out.mono hO7.out.inv.le) hkt h2 (by omega) (by omega) hq2).mono ?_); rintro e w8 ⟨rfl, hb8⟩; have hO8 := Lib.hid (hO7.out.callB hb8); clear hb8)
     go_roundw
     case rel => exact ⟨j, t, kt, a7, c7, qs, φ7, by omega, by go_num, rfl, hkt, hql, hqL, hqz2, Lib.hid (hskip.out htn2), hO8⟩
     case measure => (simp [intOf] <;> omega)
    ·have hq3 : ¬ q2 < 0 := by
      have : 0 ≤ q2 := by rw [← hq2.out, cmpN, if_neg htn2]; split <;> omega
      omega
     clear htn2 hskip
     go_wp2_with (go_at_call 84; (with_reducible refine (Rorder_any hO7.out.inv.fz hO7.out.r (S2.out.mono hO7.out.inv.le) hkt h2 (by omega) (by omega) hq2).mono ?_); rintro e w8 ⟨rfl, hb8⟩; have hO8 := Lib.hid (hO7.out.callB hb8); clear hb8)
     clear hO7
     go_loopw [10, 11] (fun lv hv wi => ∃ (lo hi : Nat) (φ' : Phi), lo ≤ hi ∧ hi ≤ 999999999 ∧ lv = .int .i64 (lo : Int) ∧ hv = .int .i64 (hi : Int) ∧ Hid (lo * n ≤ t) ∧ Hid (t < (hi + 1) * n) ∧ Hid (RoS w φ gq K qs a7 c7 t φ' wi)) (fun lv hv _ => (intOf hv - intOf lv).toNat)
     case atStart => exact ⟨0, 999999999, φ7, by omega, by omega, rfl, rfl, Lib.hid (by omega), Lib.hid htl.out, hO8⟩
     case round =>
      clear hO8
      obtain ⟨lo, hi2, φi, hlh, hh9, rfl, rfl, hlo, hhi, hOi⟩ := hrel
      rename World => wi
      by_cases hlt : lo < hi2
      ·have hlti : (lo : Int) < (hi2 : Int) := by omega
       obtain ⟨md, hmd⟩ : ∃ md, md = (lo + hi2 + 1) / 2 := ⟨_, rfl⟩
       have hmi : Hid (((lo : Int) + (hi2 : Int) + 1) / 2 = (md : Int)) := Lib.hid (by omega)
       have hm1 : lo < md := by omega
       have hm2 : md ≤ hi2 := by omega
       have hm3 : md < 9223372036854775808 := by omega
       obtain ⟨km, hkm⟩ : ∃ k, Hid ((limbs md).length = k) := ⟨_, Lib.hid rfl⟩
       have hkm1 : km ≤ 1 := by rw [← hkm.out]; exact len_le1 (by omega)
       obtain ⟨kp, hkp⟩ : ∃ k, Hid ((limbs (n * md)).length = k) := ⟨_, Lib.hid rfl⟩
       have hkp1 : kp ≤ k2 + 1 := by
        have := limbs_mul n md
        rw [hkp.out, h2.out, hkm.out] at this; omega
       obtain ⟨q4, hq4⟩ : ∃ q, Hid (cmpN (n * md) t = q) := ⟨_, Lib.hid rfl⟩
       clear hmd
       go_upto_region 14 with fail
       rw [hmi.out]
       by_cases hle : n * md ≤ t
       ·have hq5 : q4 ≤ 0 := by rw [← hq4.out, cmpN]; split; omega; rw [if_neg (by omega)]; omega
        have hlo2 : Hid (md * n ≤ t) := Lib.hid (by rw [Nat.mul_comm]; exact hle)
        clear hle
        go_wp2_with (first
         | (go_at_call 84; (with_reducible refine (Rorder_any hO12.out.inv.fz SP.out hO12.out.r hkp hkt (by omega) (by omega) hq4).mono ?_); rintro e w13 ⟨rfl, hb13⟩; have hO13 := Lib.hid (hO12.out.callB hb13); clear hb13)
         | (go_at_call 81; (with_reducible refine (Rtimes_any (m := n) (n := md) hO11.out.inv.fz (S2.out.mono hO11.out.inv.le) SM.out h2 hkm (by omega) (by omega)).mono ?_); rintro e w12 ⟨a12, c12, φ12, rfl, hi12, hs12⟩; rw [hkp.out]; have hO12 := Lib.hid (hO11.out.call hi12); have SP := Lib.hid hs12; clear hi12 hs12)
         | (go_at_call 80; (with_reducible refine (Rsmall_any md hm3 _ _ hOi.out.inv.fz).mono ?_); rintro e w11 ⟨a11, c11, φ11, rfl, hi11, hs11⟩; rw [hkm.out]; have hO11 := Lib.hid (hOi.out.call hi11); have SM := Lib.hid hs11; clear hi11 hs11))
        go_roundw
        case rel => exact ⟨md, hi2, φ12, hm2, hh9, rfl, rfl, hlo2, hhi, hO13⟩
        case measure => simp [intOf]; omega
       ·have hq5 : ¬ q4 ≤ 0 := by
         have : q4 = 1 := by rw [← hq4.out, cmpN, if_neg (by omega), if_pos (by omega)]
         omega
        obtain ⟨m1, hm1e⟩ : ∃ k, k = md - 1 := ⟨_, rfl⟩
        have hm1i : Hid ((md : Int) - 1 = (m1 : Int)) := Lib.hid (by omega)
        have hhi2 : Hid (t < (m1 + 1) * n) := Lib.hid (by rw [show m1 + 1 = md by omega, Nat.mul_comm]; omega)
        have hm1a : lo ≤ m1 := by omega
        have hm1b : m1 ≤ 999999999 := by omega
        have hm1c : Hid (m1 < hi2) := Lib.hid (by omega)
        clear hle hm1e
        go_wp2_with (first
         | (go_at_call 84; (with_reducible refine (Rorder_any hO12.out.inv.fz SP.out hO12.out.r hkp hkt (by omega) (by omega) hq4).mono ?_); rintro e w13 ⟨rfl, hb13⟩; have hO13 := Lib.hid (hO12.out.callB hb13); clear hb13)
         | (go_at_call 81; (with_reducible refine (Rtimes_any (m := n) (n := md) hO11.out.inv.fz (S2.out.mono hO11.out.inv.le) SM.out h2 hkm (by omega) (by omega)).mono ?_); rintro e w12 ⟨a12, c12, φ12, rfl, hi12, hs12⟩; rw [hkp.out]; have hO12 := Lib.hid (hO11.out.call hi12); have SP := Lib.hid hs12; clear hi12 hs12)
         | (go_at_call 80; (with_reducible refine (Rsmall_any md hm3 _ _ hOi.out.inv.fz).mono ?_); rintro e w11 ⟨a11, c11, φ11, rfl, hi11, hs11⟩; rw [hkm.out]; have hO11 := Lib.hid (hOi.out.call hi11); have SM := Lib.hid hs11; clear hi11 hs11))
        rw [hm1i.out]
        go_roundw
        case rel => exact ⟨lo, m1, φ12, hm1a, hm1b, rfl, rfl, hlo, hhi2, hO13⟩
        case measure => have := hm1c.out; simp [intOf]; omega
      ·obtain rfl : lo = hi2 := by omega
       have hnlt : ¬ (lo : Int) < (lo : Int) := by omega
       have hdv : Hid (t / n = lo) := Lib.hid (Nat.div_eq_of_lt_le hlo.out hhi.out)
       have hmr : Hid (t - n * lo = t % n) := Lib.hid (by
        have h := Nat.div_add_mod t n
        rw [hdv.out] at h; omega)
       have hnl2 : Hid (n * lo ≤ t) := Lib.hid (by rw [Nat.mul_comm]; exact hlo.out)
       rw [hdv.out] at hnext
       obtain ⟨gg, hga, hgl2, fo⟩ := hOi.out.q.natI hql (k := j) (by omega)
       cases hga
       obtain ⟨e1, e2, e3⟩ := fo j (by omega)
       have e4 := e3 lo w φ hOi.out.inv
       have hOs := Lib.hid (RoS.mk e4.2 e4.1 hOi.out.r)
       have hlo9 : Hid (lo < lb) := Lib.hid (by show lo < 1000000000; omega)
       obtain ⟨km, hkm⟩ : ∃ k, Hid ((limbs lo).length = k) := ⟨_, Lib.hid rfl⟩
       have hkm1 : km ≤ 1 := by rw [← hkm.out]; exact len_le1 (by omega)
       obtain ⟨kp, hkp⟩ : ∃ k, Hid ((limbs (n * lo)).length = k) := ⟨_, Lib.hid rfl⟩
       obtain ⟨kr2, hkr2'⟩ : ∃ k, Hid ((limbs (t % n)).length = k) := ⟨_, Lib.hid rfl⟩
       have hm3 : lo < 9223372036854775808 := by omega
       have hbdK : ((j + 1 : Nat) : Int) - 1 < (K : Int) := by omega
       have hqL2 : Hid (Lim (qs.set j lo)) := Lib.hid (hqL.out.set hlo9.out)
       have hqz3 : Hid (∀ i, i < j → (qs.set j lo).getD i 0 = 0) := Lib.hid (fun i hi => by
        have := hqz2.out i hi
        rw [List.getD_eq_getElem?_getD] at this ⊢
        rw [List.getElem?_set_ne (by omega)]; exact this)
       clear fo e3 e4 hOi hlo hhi
       go_wp2_with (first
        | (go_at_call 85; (with_reducible refine (Rminus_any (m := t) (n := n * lo) hO12.out.inv.fz hO12.out.r SP.out hkt hkp (by omega) hnl2.out).mono ?_); rw [hmr.out]; rintro e w13 ⟨a13, c13, φ13, rfl, hi13, hs13⟩; rw [hkr2'.out]; have hO13 := Lib.hid (hO12.out.call hi13); have SR13 := Lib.hid hs13; clear hi13 hs13)
        | (go_at_call 81; (with_reducible refine (Rtimes_any (m := n) (n := lo) hO11.out.inv.fz (S2.out.mono hO11.out.inv.le) SM.out h2 hkm (by omega) (by omega)).mono ?_); rintro e w12 ⟨a12, c12, φ12, rfl, hi12, hs12⟩; rw [hkp.out]; have hO12 := Lib.hid (hO11.out.call hi12); have SP := Lib.hid hs12; clear hi12 hs12)
        | (go_at_call 80; (with_reducible refine (Rsmall_any lo hm3 _ _ hOs.out.inv.fz).mono ?_); rintro e w11 ⟨a11, c11, φ11, rfl, hi11, hs11⟩; rw [hkm.out]; have hO11 := Lib.hid (hOs.out.call hi11); have SM := Lib.hid hs11; clear hi11 hs11))
       go_roundw
       case rel => exact ⟨j, t % n, kr2, a13, c13, qs.set j lo, φ13, by omega, by go_num, rfl, hkr2', Lib.hid (by rw [List.length_set]; exact hql.out), hqL2, hqz3, hnext, Lib.hid ⟨hO13.out.inv, hO13.out.q, SR13.out⟩⟩
       case measure => (simp [intOf] <;> omega)
 ·have SD := Lib.hid (S1.out.dropI (k := K) (by rw [h1.out]; exact hK1))
  rw [hD] at SD
  clear hD
  go_enter Tryz.func100, Tryz.ntmps100
  go_upto_region 4 with (go_at_call 84; refine (Rorder_any HF.out S1.out S2.out h1 h2 (by omega) (by omega) hq).mono ?_; rintro e w1 ⟨rfl, hb⟩; have HI := Lib.hid ((Inv.start HF.out).callB hb); clear hb)
  rw [hKi.out]
  go_wp2_with (first
   | (at_make; (refine wpList_mkn (α := Nat) rfl _ _ 34 rfl slNatI HI.out _ _ K 0 (fun _ => rfl) rfl rfl rfl (by omega) ?_; intro w8 hi8 ho8 hg8; have hgs := Lib.hid (hi8.alloc (.cells #[] 3)); have hog := Lib.hid ho8; have hl8 := Lib.hid (ho8.lt _ rfl).2; have hil := Lib.hid (Own.lit0 hi8 3 : Own _ _ _ _ _ _ ([] : List Nat)); clear hi8 ho8 hg8))
   | (at_builtin; refine wpList_appsF (α := Nat) rfl _ _ 34 rfl slNatI hgs.out _ 0 [] hil.out _ _ (limbs r0) SD.out 0 (k1 - K) hnl hdl rfl rfl (by omega) ?_; intro a6 c6 w6 hi6 ho6 hg6 hf6; rw [Nat.zero_add]; have HI6 := Lib.hid hi6; have HO6 := Lib.hid ho6; have HG6 := Lib.hid hg6; have HF6 := Lib.hid hf6; clear hi6 ho6 hg6 hf6))
  have ho := HO6.out
  rw [List.nil_append] at ho
  have hl8' : w1.heap.size < w8.heap.size := hl8.out
  obtain ⟨φ6, hl6, hi6, hs6, hq6⟩ := ho.relOther HI6.out ((hog.out.alloc _).other HG6.out (fun x hx e => by cases hx; simp at e; omega)) (row_ne HF6.out (by simp; omega) (fun y hy e => by cases hy; simp at e; omega))
  have hO : Hid (RoS w φ w1.heap.size K (List.replicate K 0) a6 c6 r0 φ6 w6) := Lib.hid ⟨hi6, hq6, hs6⟩
  clear hgs hog hl8 hil HI6 HO6 HG6 HF6 ho hl6 hi6 hs6 hq6
  obtain ⟨gq, hgq⟩ : ∃ gq, w1.heap.size = gq := ⟨_, rfl⟩
  rw [hgq] at hO ⊢
  clear hgq
  go_loopw [8, 9] (fun rv iv wr => ∃ (i r kr : Nat) (ar : Option Addr) (cr : Nat) (qs : List Nat) (φ' : Phi), i ≤ K ∧ iv = .int .i64 ((i : Int) - 1) ∧ rv = .slice ar kr cr ∧ Hid ((limbs r).length = kr) ∧ Hid (qs.length = K) ∧ Hid (Lim qs) ∧ Hid (∀ j, j < i → qs.getD j 0 = 0) ∧ Hid (RoI (limbs m) qs n i r) ∧ Hid (RoS w φ gq K qs ar cr r φ' wr)) (fun _ iv _ => (intOf iv + 1).toNat)
  case atStart => exact ⟨K, r0, (k1 - K), a6, c6, List.replicate K 0, φ6, Nat.le_refl _, rfl, rfl, by first | exact hk0 | exact hdl, hKs, Lib.hid (Lim.zeros K), Lib.hid (fun j _ => by rw [List.getD_eq_getElem?_getD, List.getElem?_replicate]; split <;> rfl), hst, hO⟩
  case round =>
   clear hO hst
   obtain ⟨i, r, kr, ar, cr, qs, φ', hi, rfl, rfl, hkr, hql, hqL, hqz, hI, hO⟩ := hrel
   have hkr2 : kr ≤ k2 := by rw [← hkr.out, ← h2.out]; exact limbs_mono (Nat.le_of_lt hI.out.lt)
   by_cases hi0 : i = 0
   ·subst hi0
    have hneg : ¬ (0 : Int) ≤ ((0 : Nat) : Int) - 1 := by omega
    have hdm : Hid (m / n = LV qs ∧ m % n = r) := Lib.hid (by
     have h := hI.out.eq
     rw [List.drop_zero, List.drop_zero, hMA.out] at h
     exact divmod_of hn0 h hI.out.lt)
    obtain ⟨φ9, l9, i9, sq, _⟩ := hO.out.q.release hO.out.inv
    have HSQ := Lib.hid sq
    have HI9 := Lib.hid i9
    have SR := Lib.hid (hO.out.r.mono l9)
    obtain ⟨p2, hp2⟩ : ∃ p, Hid ((limbs (LV qs)).length = p) := ⟨_, Lib.hid rfl⟩
    clear sq i9 l9 hO hI hqz
    go_wp2_with (go_at_call 102; (with_reducible refine (Rtrim_any HI9.out.fz HSQ.out hql (by omega) hqL hp2).mono ?_); rintro e w' ⟨rfl, rfl⟩)
    go_ret2
    refine ⟨some ⟨gq, 0, none⟩, K, ar, cr, φ9, ?_, HI9.out, ?_, ?_⟩
    ·rw [hdm.out.1, hdm.out.2, hp2.out, hkr.out]; rfl
    ·rw [hdm.out.1]; exact HSQ.out.trimI hqL.out rfl
    ·rw [hdm.out.2]; exact SR.out
   ·obtain ⟨j, rfl⟩ : ∃ j, i = j + 1 := ⟨i - 1, by omega⟩
    have hpos : (0 : Int) ≤ ((j + 1 : Nat) : Int) - 1 := by omega
    have hjj : Hid (((j + 1 : Nat) : Int) - 1 = (j : Int)) := Lib.hid (by omega)
    have hto : (((j + 1 : Nat) : Int) - 1).toNat = j := by omega
    have hbd : ((j + 1 : Nat) : Int) - 1 < (k1 : Int) := by omega
    obtain ⟨x, hx⟩ : ∃ x, Hid ((limbs m).getD j 0 = x) := ⟨_, Lib.hid rfl⟩
    have hxl : x < 1000000000 := by rw [← hx.out]; exact hLA.out.getD _
    have d1 := hA.out j (by omega) wr (hO.out.inv.fz.sub hO.out.inv.le)
    rw [hx.out] at d1
    obtain ⟨t, ht⟩ : ∃ t, t = x + lb * r := ⟨_, rfl⟩
    obtain ⟨kt, hkt⟩ : ∃ k, Hid ((limbs t).length = k) := ⟨_, Lib.hid rfl⟩
    have htl : Hid (t < lb * n) := Lib.hid (by
     have h3 : lb * (r + 1) ≤ lb * n := Nat.mul_le_mul_left _ hI.out.lt
     rw [Nat.mul_succ] at h3
     have : x < lb := hxl
     omega)
    have hkt2 : kt ≤ k2 + 1 := by
     rw [← hkt.out, ← h2.out]
     have h3 := limbs_mono (Nat.le_of_lt htl.out)
     have h4 := limbs_mul lb n
     have h5 : (limbs lb).length ≤ 2 := limbs_le (by decide)
     have h6 : (limbs t).length ≤ (limbs n).length + 1 := limbs_le (by
      rw [Nat.pow_succ, Nat.mul_comm]
      exact Nat.lt_of_lt_of_le htl.out (Nat.mul_le_mul_left _ (Nat.le_of_lt (limbs_lt n))))
     exact h6
    have htv : Hid (LV ([x] ++ limbs r) = t) := Lib.hid (by rw [ht, List.singleton_append, LV, LV_limbs])
    have htL : Hid (Lim ([x] ++ limbs r)) := Lib.hid ((Lim.one hxl).append (limbs_lim r))
    have htn : Hid (([x] ++ limbs r).length = 1 + kr) := Lib.hid (by rw [List.length_append, hkr.out]; rfl)
    have hkt3 : Hid ((limbs (LV ([x] ++ limbs r))).length = kt) := Lib.hid (by rw [htv.out]; exact hkt.out)
    have hx1 : Hid (([x] : List Nat).length = 1) := Lib.hid rfl
    have hil := Lib.hid (Own.lit hO.out.inv 3 (xs := [x]) (arr := #[.int .i64 (x : Int)]) (RepL.single (x := x) (cs := [.int .i64 (x : Int)]) rfl) (by simp [maxLen]))
    have hii := Lib.hid (hO.out.inv.alloc (.cells #[.int .i64 (x : Int)] 3))
    have hqa := Lib.hid (hO.out.q.alloc (.cells #[.int .i64 (x : Int)] 3))
    have hgl : Hid (gq < wr.heap.size) := Lib.hid (hO.out.q.lt _ rfl).2
    have hskip := Lib.hid (fun (hlt : t < n) => hI.out.skip (x := x) (by rw [h1.out]; omega) (by rw [hql.out]; omega) hx.out (hqz.out j (by omega)) (by rw [← ht]; exact hlt))
    have hnext := Lib.hid (hI.out.next (x := x) hn0 (by rw [h1.out]; omega) (by rw [hql.out]; omega) hx.out)
    rw [← ht] at hskip hnext
    have hqz2 : Hid (∀ i, i < j → qs.getD i 0 = 0) := Lib.hid (fun i hi => hqz.out i (by omega))
    have SRr := Lib.hid hO.out.r
    clear ht hqz hI hx hO
    obtain ⟨q2, hq2⟩ : ∃ q, Hid (cmpN t n = q) := ⟨_, Lib.hid rfl⟩
    go_upto_region 10 with (first
     | (at_builtin; refine wpList_appsF (α := Nat) rfl _ _ 34 rfl slNatI hii.out _ 1 [x] hil.out _ _ (limbs r) SRr.out 1 kr hx1 hkr rfl rfl (by omega) ?_; intro a7 c7 w7 hi7 ho7 hg7 hf7; obtain ⟨φ7, hl7, hi7', hs7, hq7⟩ := ho7.relOther hi7 (hqa.out.other hg7 (fun x hx e => by cases hx; have := hgl.out; simp at e; omega)) (row_ne hf7 (by have := hgl.out; simp; omega) (fun y hy e => by cases hy; have := hgl.out; simp at e; omega)); have hO7 := Lib.hid (RoS.mk (w0 := w) (φ0 := φ) (r := t) hi7' hq7 (hs7.trimI htL.out htv.out)); have HS7 := Lib.hid hs7; clear hi7 ho7 hg7 hf7 hl7 hi7' hs7 hq7)
     | (go_at_call 102; (with_reducible refine (Rtrim_any hO7.out.inv.fz HS7.out htn (by omega) htL hkt3).mono ?_); rintro e w' ⟨rfl, rfl⟩))
    clear HS7 hil hii hqa hgl d1 htL htn hkt3 htv SRr
    by_cases htn2 : t < n
    ·have hq3 : q2 = -1 := by rw [← hq2.out, cmpN, if_pos htn2]
     subst hq3
     go_wp2_with (go_at_call 84; (with_reducible refine (Rorder_any hO7.out.inv.fz hO7.out.r (S2.out.mono hO7.out.inv.le) hkt h2 (by omega) (by omega) hq2).mono ?_); rintro e w8 ⟨rfl, hb8⟩; have hO8 := Lib.hid (hO7.out.callB hb8); clear hb8)
     go_roundw
     case rel => exact ⟨j, t, kt, a7, c7, qs, φ7, by omega, by go_num, rfl, hkt, hql, hqL, hqz2, Lib.hid (hskip.out htn2), hO8⟩
     case measure => (simp [intOf] <;> omega)
    ·have hq3 : ¬ q2 < 0 := by
      have : 0 ≤ q2 := by rw [← hq2.out, cmpN, if_neg htn2]; split <;> omega
      omega
     clear htn2 hskip
     go_wp2_with (go_at_call 84; (with_reducible refine (Rorder_any hO7.out.inv.fz hO7.out.r (S2.out.mono hO7.out.inv.le) hkt h2 (by omega) (by omega) hq2).mono ?_); rintro e w8 ⟨rfl, hb8⟩; have hO8 := Lib.hid (hO7.out.callB hb8); clear hb8)
     clear hO7
     go_loopw [10, 11] (fun lv hv wi => ∃ (lo hi : Nat) (φ' : Phi), lo ≤ hi ∧ hi ≤ 999999999 ∧ lv = .int .i64 (lo : Int) ∧ hv = .int .i64 (hi : Int) ∧ Hid (lo * n ≤ t) ∧ Hid (t < (hi + 1) * n) ∧ Hid (RoS w φ gq K qs a7 c7 t φ' wi)) (fun lv hv _ => (intOf hv - intOf lv).toNat)
     case atStart => exact ⟨0, 999999999, φ7, by omega, by omega, rfl, rfl, Lib.hid (by omega), Lib.hid htl.out, hO8⟩
     case round =>
      clear hO8
      obtain ⟨lo, hi2, φi, hlh, hh9, rfl, rfl, hlo, hhi, hOi⟩ := hrel
      rename World => wi
      by_cases hlt : lo < hi2
      ·have hlti : (lo : Int) < (hi2 : Int) := by omega
       obtain ⟨md, hmd⟩ : ∃ md, md = (lo + hi2 + 1) / 2 := ⟨_, rfl⟩
       have hmi : Hid (((lo : Int) + (hi2 : Int) + 1) / 2 = (md : Int)) := Lib.hid (by omega)
       have hm1 : lo < md := by omega
       have hm2 : md ≤ hi2 := by omega
       have hm3 : md < 9223372036854775808 := by omega
       obtain ⟨km, hkm⟩ : ∃ k, Hid ((limbs md).length = k) := ⟨_, Lib.hid rfl⟩
       have hkm1 : km ≤ 1 := by rw [← hkm.out]; exact len_le1 (by omega)
       obtain ⟨kp, hkp⟩ : ∃ k, Hid ((limbs (n * md)).length = k) := ⟨_, Lib.hid rfl⟩
       have hkp1 : kp ≤ k2 + 1 := by
        have := limbs_mul n md
        rw [hkp.out, h2.out, hkm.out] at this; omega
       obtain ⟨q4, hq4⟩ : ∃ q, Hid (cmpN (n * md) t = q) := ⟨_, Lib.hid rfl⟩
       clear hmd
       go_upto_region 14 with fail
       rw [hmi.out]
       by_cases hle : n * md ≤ t
       ·have hq5 : q4 ≤ 0 := by rw [← hq4.out, cmpN]; split; omega; rw [if_neg (by omega)]; omega
        have hlo2 : Hid (md * n ≤ t) := Lib.hid (by rw [Nat.mul_comm]; exact hle)
        clear hle
        go_wp2_with (first
         | (go_at_call 84; (with_reducible refine (Rorder_any hO12.out.inv.fz SP.out hO12.out.r hkp hkt (by omega) (by omega) hq4).mono ?_); rintro e w13 ⟨rfl, hb13⟩; have hO13 := Lib.hid (hO12.out.callB hb13); clear hb13)
         | (go_at_call 81; (with_reducible refine (Rtimes_any (m := n) (n := md) hO11.out.inv.fz (S2.out.mono hO11.out.inv.le) SM.out h2 hkm (by omega) (by omega)).mono ?_); rintro e w12 ⟨a12, c12, φ12, rfl, hi12, hs12⟩; rw [hkp.out]; have hO12 := Lib.hid (hO11.out.call hi12); have SP := Lib.hid hs12; clear hi12 hs12)
         | (go_at_call 80; (with_reducible refine (Rsmall_any md hm3 _ _ hOi.out.inv.fz).mono ?_); rintro e w11 ⟨a11, c11, φ11, rfl, hi11, hs11⟩; rw [hkm.out]; have hO11 := Lib.hid (hOi.out.call hi11); have SM := Lib.hid hs11; clear hi11 hs11))
        go_roundw
        case rel => exact ⟨md, hi2, φ12, hm2, hh9, rfl, rfl, hlo2, hhi, hO13⟩
        case measure => simp [intOf]; omega
       ·have hq5 : ¬ q4 ≤ 0 := by
         have : q4 = 1 := by rw [← hq4.out, cmpN, if_neg (by omega), if_pos (by omega)]
         omega
        obtain ⟨m1, hm1e⟩ : ∃ k, k = md - 1 := ⟨_, rfl⟩
        have hm1i : Hid ((md : Int) - 1 = (m1 : Int)) := Lib.hid (by omega)
        have hhi2 : Hid (t < (m1 + 1) * n) := Lib.hid (by rw [show m1 + 1 = md by omega, Nat.mul_comm]; omega)
        have hm1a : lo ≤ m1 := by omega
        have hm1b : m1 ≤ 999999999 := by omega
        have hm1c : Hid (m1 < hi2) := Lib.hid (by omega)
        clear hle hm1e
        go_wp2_with (first
         | (go_at_call 84; (with_reducible refine (Rorder_any hO12.out.inv.fz SP.out hO12.out.r hkp hkt (by omega) (by omega) hq4).mono ?_); rintro e w13 ⟨rfl, hb13⟩; have hO13 := Lib.hid (hO12.out.callB hb13); clear hb13)
         | (go_at_call 81; (with_reducible refine (Rtimes_any (m := n) (n := md) hO11.out.inv.fz (S2.out.mono hO11.out.inv.le) SM.out h2 hkm (by omega) (by omega)).mono ?_); rintro e w12 ⟨a12, c12, φ12, rfl, hi12, hs12⟩; rw [hkp.out]; have hO12 := Lib.hid (hO11.out.call hi12); have SP := Lib.hid hs12; clear hi12 hs12)
         | (go_at_call 80; (with_reducible refine (Rsmall_any md hm3 _ _ hOi.out.inv.fz).mono ?_); rintro e w11 ⟨a11, c11, φ11, rfl, hi11, hs11⟩; rw [hkm.out]; have hO11 := Lib.hid (hOi.out.call hi11); have SM := Lib.hid hs11; clear hi11 hs11))
        rw [hm1i.out]
        go_roundw
        case rel => exact ⟨lo, m1, φ12, hm1a, hm1b, rfl, rfl, hlo, hhi2, hO13⟩
        case measure => have := hm1c.out; simp [intOf]; omega
      ·obtain rfl : lo = hi2 := by omega
       have hnlt : ¬ (lo : Int) < (lo : Int) := by omega
       have hdv : Hid (t / n = lo) := Lib.hid (Nat.div_eq_of_lt_le hlo.out hhi.out)
       have hmr : Hid (t - n * lo = t % n) := Lib.hid (by
        have h := Nat.div_add_mod t n
        rw [hdv.out] at h; omega)
       have hnl2 : Hid (n * lo ≤ t) := Lib.hid (by rw [Nat.mul_comm]; exact hlo.out)
       rw [hdv.out] at hnext
       obtain ⟨gg, hga, hgl2, fo⟩ := hOi.out.q.natI hql (k := j) (by omega)
       cases hga
       obtain ⟨e1, e2, e3⟩ := fo j (by omega)
       have e4 := e3 lo w φ hOi.out.inv
       have hOs := Lib.hid (RoS.mk e4.2 e4.1 hOi.out.r)
       have hlo9 : Hid (lo < lb) := Lib.hid (by show lo < 1000000000; omega)
       obtain ⟨km, hkm⟩ : ∃ k, Hid ((limbs lo).length = k) := ⟨_, Lib.hid rfl⟩
       have hkm1 : km ≤ 1 := by rw [← hkm.out]; exact len_le1 (by omega)
       obtain ⟨kp, hkp⟩ : ∃ k, Hid ((limbs (n * lo)).length = k) := ⟨_, Lib.hid rfl⟩
       obtain ⟨kr2, hkr2'⟩ : ∃ k, Hid ((limbs (t % n)).length = k) := ⟨_, Lib.hid rfl⟩
       have hm3 : lo < 9223372036854775808 := by omega
       have hbdK : ((j + 1 : Nat) : Int) - 1 < (K : Int) := by omega
       have hqL2 : Hid (Lim (qs.set j lo)) := Lib.hid (hqL.out.set hlo9.out)
       have hqz3 : Hid (∀ i, i < j → (qs.set j lo).getD i 0 = 0) := Lib.hid (fun i hi => by
        have := hqz2.out i hi
        rw [List.getD_eq_getElem?_getD] at this ⊢
        rw [List.getElem?_set_ne (by omega)]; exact this)
       clear fo e3 e4 hOi hlo hhi
       go_wp2_with (first
        | (go_at_call 85; (with_reducible refine (Rminus_any (m := t) (n := n * lo) hO12.out.inv.fz hO12.out.r SP.out hkt hkp (by omega) hnl2.out).mono ?_); rw [hmr.out]; rintro e w13 ⟨a13, c13, φ13, rfl, hi13, hs13⟩; rw [hkr2'.out]; have hO13 := Lib.hid (hO12.out.call hi13); have SR13 := Lib.hid hs13; clear hi13 hs13)
        | (go_at_call 81; (with_reducible refine (Rtimes_any (m := n) (n := lo) hO11.out.inv.fz (S2.out.mono hO11.out.inv.le) SM.out h2 hkm (by omega) (by omega)).mono ?_); rintro e w12 ⟨a12, c12, φ12, rfl, hi12, hs12⟩; rw [hkp.out]; have hO12 := Lib.hid (hO11.out.call hi12); have SP := Lib.hid hs12; clear hi12 hs12)
        | (go_at_call 80; (with_reducible refine (Rsmall_any lo hm3 _ _ hOs.out.inv.fz).mono ?_); rintro e w11 ⟨a11, c11, φ11, rfl, hi11, hs11⟩; rw [hkm.out]; have hO11 := Lib.hid (hOs.out.call hi11); have SM := Lib.hid hs11; clear hi11 hs11))
       go_roundw
       case rel => exact ⟨j, t % n, kr2, a13, c13, qs.set j lo, φ13, by omega, by go_num, rfl, hkr2', Lib.hid (by rw [List.length_set]; exact hql.out), hqL2, hqz3, hnext, Lib.hid ⟨hO13.out.inv, hO13.out.q, SR13.out⟩⟩
       case measure => (simp [intOf] <;> omega)
end Go.Proofs.YtmlpjffnmkndoaaGreatDoor

namespace Go.Proofs.YtmlpjffnmkndoaaGreatDoor
open Go.RowKit
set_option linter.unusedVariables false
set_option linter.unusedSimpArgs false
set_option maxHeartbeats 1000000 in
theorem Rcommon_any {M : Nat} (hM : LenB M) {m n k1 k2 : Nat} {a1 a2 : Option Addr} {c1 c2 : Nat} {w : World} {φ : Phi} (hφ : Fz φ w) (s1 : SlV φ a1 c1 (limbs m)) (s2 : SlV φ a2 c2 (limbs n)) (h1 : Hid ((limbs m).length = k1)) (h2 : Hid ((limbs n).length = k2)) (hm : m ≤ M) (hn : n ≤ M) :
  Calls Tryz.prog 50 #[.slice a1 k1 c1, .slice a2 k2 c2] w (NatI (Nat.gcd m n) φ w) := by
 have hS0 : Hid (GcI w φ a1 c1 m a2 c2 n φ w) := Lib.hid ⟨Inv.start hφ, s1, s2⟩
 clear s1 s2 hφ
 go_enter Tryz.func50, Tryz.ntmps50
 go_wp2
 go_loopw [0, 1] (fun u v wr => ∃ (x y k1 k2 : Nat) (a1 a2 : Option Addr) (c1 c2 : Nat) (φ' : Phi), x ≤ M ∧ y ≤ M ∧ u = .slice a1 k1 c1 ∧ v = .slice a2 k2 c2 ∧ Hid ((limbs x).length = k1) ∧ Hid ((limbs y).length = k2) ∧ Hid (Nat.gcd x y = Nat.gcd m n) ∧ Hid (GcI w φ a1 c1 x a2 c2 y φ' wr)) (fun _ v wr => natAt wr v)
 case atStart => exact ⟨m, n, k1, k2, a1, a2, c1, c2, φ, hm, hn, rfl, rfl, h1, h2, Lib.hid rfl, hS0⟩
 case round =>
  clear hS0 hm hn h1 h2
  obtain ⟨x, y, k1, k2, a1, a2, c1, c2, φ', hx, hy, rfl, rfl, h1, h2, hg, hS⟩ := hrel
  by_cases h0 : k2 = 0
  ·subst h0
   have hy : y = 0 := limbs_len0.1 h2.out
   have e : Hid (x = Nat.gcd m n) := Lib.hid (by rw [← hg.out, hy, Nat.gcd_zero_right])
   go_wp2
   go_ret
   refine ⟨a1, c1, φ', ?_, hS.out.inv, ?_⟩
   ·rw [← e.out, h1.out]; rfl
   ·rw [← e.out]; exact hS.out.s1
  ·have hy0 : 0 < y := by
    rcases Nat.eq_zero_or_pos y with q | q
    ·exfalso; apply h0; rw [← h2.out, q, limbs_zero]; rfl
    ·exact q
   have hk0 : (0 : Int) < (k2 : Int) := by omega
   have hme : Hid (natAt wr (.slice a2 k2 c2) = y) := Lib.hid (natAt_I hS.out.inv.fz hS.out.s2 h2)
   have hmod : x % y < y := Nat.mod_lt x hy0
   obtain ⟨k3, h3⟩ : ∃ k3, Hid ((limbs (x % y)).length = k3) := ⟨_, Lib.hid rfl⟩
   have hx3 : x % y ≤ M := by omega
   have hg2 : Hid (Nat.gcd y (x % y) = Nat.gcd m n) := Lib.hid (by rw [← hg.out, Nat.gcd_comm y, ← Nat.gcd_rec, Nat.gcd_comm])
   clear h0
   go_wp2_with (go_at_call 100; (with_reducible refine (Rover_any hM hS.out.inv.fz hS.out.s1 hS.out.s2 h1 h2 hx hy hy0).mono ?_); rintro e w2 ⟨a8, c8, a9, c9, φ9, rfl, hi9, hs8, hs9⟩; rw [h3.out])
   go_roundw
   case rel => exact ⟨y, x % y, k2, k3, a2, a9, c2, c9, φ9, hy, hx3, rfl, rfl, h2, h3, hg2, Lib.hid ⟨hS.out.inv.call hi9, hS.out.s2.mono hi9.le, hs9⟩⟩
   case measure =>
    rw [hme.out, natAt_I hi9.fz hs9 h3]
    exact hmod
end Go.Proofs.YtmlpjffnmkndoaaGreatDoor
