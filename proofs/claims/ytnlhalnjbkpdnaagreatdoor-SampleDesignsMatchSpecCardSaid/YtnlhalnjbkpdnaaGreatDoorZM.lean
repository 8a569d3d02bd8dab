/- The state of Joint, the reference's side, what its calls do to it, and that chances of pairs are fine quotients. The walk of Joint, the reference's side. Conditions: the library's tables of blanks and of powers of ten read as they were laid; texts of a length that a form reaches. Conditions: none beyond what the claim form gives. -/
import Derived.Test.YtnlhalnjbkpdnaaGreatDoorZD27b
namespace Go.Proofs.YtnlhalnjbkpdnaaGreatDoor
open Go.RowKit Go.Sort
set_option linter.unusedVariables false
set_option linter.unusedSimpArgs false
theorem iU_lt {us : List Unt} {u : Unt} (hu : u ∈ us) : iU us u.1 < us.length := List.findIdx_lt_length_of_exists ⟨u, hu, by simp⟩
theorem iC_lt {us : List Unt} {u : Unt} (hu : u ∈ us) : iC us u.2.2.1 < (cnsL us).length := List.findIdx_lt_length_of_exists ⟨_, mem_cnsL.2 ⟨u, hu, rfl⟩, by simp⟩
theorem jn_qu {kind : Int} (hk : kind = 1 ∨ kind = 2 ∨ kind = 3) {s : ByteArray} {t1 t2 : Int} {us : List Unt} (hl : us.length ≤ 5000) (hok : ∀ u ∈ us, 1 ≤ u.2.2.2 ∧ u.2.2.2 ≤ 1000000) (ht : TkOk kind (s, t1, t2) us) {u v : Unt} (hu : u ∈ us) (hv : v ∈ us) (hne : u.1 ≠ v.1) : Qu (jnR kind (s, t1, t2) us u v) (100000000000000 * 100000000000000 * 100000000000000) (100000000000000 * 100000000000000 * 100000000000000) := by
  have hlo := ht.lo
  have hhi := ht.hi
  have hszb := szU_bd hok
  have hn2 : 2 ≤ us.length := two_le hu hv (fun e => hne (congrArg (·.1) e))
  dsimp only at hlo hhi
  unfold jnR
  rcases hk with rfl | rfl | rfl
  · rw [if_pos rfl]
    have p1 : 0 ≤ t1 * (t1 - 1) ∧ t1 * (t1 - 1) ≤ 25000000 := by
      by_cases e : t1 = 0
      · subst e; simp
      · exact ⟨Int.mul_nonneg hlo (by omega), Int.le_trans (Int.mul_le_mul (show t1 ≤ 5000 by omega) (show t1 - 1 ≤ 5000 by omega) (by omega) (by decide)) (by decide)⟩
    have p2 : 0 < (us.length : Int) * ((us.length : Int) - 1) ∧ (us.length : Int) * ((us.length : Int) - 1) ≤ 25000000 := ⟨Int.mul_pos (by omega) (by omega), Int.le_trans (Int.mul_le_mul (show (us.length : Int) ≤ 5000 by omega) (show (us.length : Int) - 1 ≤ 5000 by omega) (by omega) (by decide)) (by decide)⟩
    exact (Qu.of (A := 100000000000000) (B := 100000000000000) p2.1 (by dsimp only; omega) (by omega)).leQ (by decide) (by decide)
  · rw [if_neg (by decide), if_pos rfl]
    have hS := sy_ok (by decide) ht rfl (show 0 < us.length by omega) hl hok
    have hb : 0 ≤ bthI (szL us) t1 (iU us u.1) (iU us v.1) ∧ bthI (szL us) t1 (iU us u.1) (iU us v.1) ≤ 15000000000 := hS.bd (show iU us u.1 < (us.map _).length by rw [List.length_map]; exact iU_lt hu) (show iU us v.1 < (us.map _).length by rw [List.length_map]; exact iU_lt hv)
    exact (Qu.of (A := 100000000000000) (B := 100000000000000) (by omega) (by dsimp only; omega) (by omega)).leQ (by decide) (by decide)
  · rw [if_neg (by decide), if_neg (by decide)]
    have hmu : u ∈ clU us u.2.2.1 := List.mem_filter.2 ⟨hu, by simp⟩
    have hmv : v ∈ clU us v.2.2.1 := List.mem_filter.2 ⟨hv, by simp⟩
    have hz1 := szU_bd (l := clU us u.2.2.1) (fun u hu => hok u (clU_mem hu))
    have hz2 := clU_len us u.2.2.1
    have hz2' := clU_len us v.2.2.1
    have hz3 : 0 < (clU us u.2.2.1).length := List.length_pos_of_mem hmu
    have hz3' : 0 < (clU us v.2.2.1).length := List.length_pos_of_mem hmv
    have hst := ht.st rfl
    have hst2 := hst.2 _ (mem_cnsL.2 ⟨u, hu, rfl⟩)
    have hst2' := hst.2 _ (mem_cnsL.2 ⟨v, hv, rfl⟩)
    dsimp only at hst hst2 hst2'
    have hst0 := hst.1
    have hmu3 : 0 ≤ t1 * szU (clU us u.2.2.1) ∧ t1 * szU (clU us u.2.2.1) ≤ 25000000000000 := ⟨Int.mul_nonneg hlo (by omega), Int.le_trans (Int.mul_le_mul (show t1 ≤ 5000 by omega) (show szU (clU us u.2.2.1) ≤ 5000000000 by omega) (by omega) (by decide)) (by decide)⟩
    clear hst
    by_cases e : u.2.2.1 = v.2.2.1
    · rw [if_pos e]
      have hnv2 : 2 ≤ (clU us u.2.2.1).length := two_le hmu (by rw [e]; exact hmv) (fun e => hne (congrArg (·.1) e))
      have p1 : 0 ≤ t2 * (t2 - 1) ∧ t2 * (t2 - 1) ≤ 25000000 := ⟨Int.mul_nonneg (by omega) (by omega), Int.le_trans (Int.mul_le_mul (show t2 ≤ 5000 by omega) (show t2 - 1 ≤ 5000 by omega) (by omega) (by decide)) (by decide)⟩
      have p2 : 0 < ((clU us u.2.2.1).length : Int) * (((clU us u.2.2.1).length : Int) - 1) ∧ ((clU us u.2.2.1).length : Int) * (((clU us u.2.2.1).length : Int) - 1) ≤ 25000000 := ⟨Int.mul_pos (by omega) (by omega), Int.le_trans (Int.mul_le_mul (show ((clU us u.2.2.1).length : Int) ≤ 5000 by omega) (show ((clU us u.2.2.1).length : Int) - 1 ≤ 5000 by omega) (by omega) (by decide)) (by decide)⟩
      exact ((Qu.of (A := 100000000000000) (B := 100000000000000) (by omega) (by dsimp only; omega) (by omega)).mul (Qu.of (A := 100000000000000) (B := 100000000000000) p2.1 (by dsimp only; omega) (by omega))).leQ (by decide) (by decide)
    · rw [if_neg e]
      have hS := sy_ok (by decide) ht rfl (show 0 < us.length by omega) hl hok
      have hb : 0 ≤ bthI (csL us) t1 (iC us u.2.2.1) (iC us v.2.2.1) ∧ bthI (csL us) t1 (iC us u.2.2.1) (iC us v.2.2.1) ≤ 15000000000 := hS.bd (show iC us u.2.2.1 < ((cnsL us).map _).length by rw [List.length_map]; exact iC_lt hu) (show iC us v.2.2.1 < ((cnsL us).map _).length by rw [List.length_map]; exact iC_lt hv)
      exact ((Qu.of (A := 100000000000000) (B := 100000000000000) (by omega) (by dsimp only; omega) (by omega)).mul ((Qu.of (A := 100000000000000) (B := 100000000000000) (by omega) (by dsimp only; omega) (by omega)).mul (Qu.of (A := 100000000000000) (B := 100000000000000) (by omega) (by dsimp only; omega) (by omega)))).leQ (by decide) (by decide)
/-- Numbers of units rise. -/
theorem frm_ord {l : List Unt} (h : frmU l = 0) : ∀ j, j < l.length → ∀ i, i < j → (l.getD i unt0).1 < (l.getD j unt0).1 := by
  unfold frmU at h
  split at h
  · cases h
  split at h
  · next h2 => exact absurd h h2
  next h1 h2 =>
  have h2 : scan (uBad l) l.length = 0 := Classical.byContradiction h2
  have hs : ∀ j, j < l.length → 0 < j → (l.getD (j - 1) unt0).1 < (l.getD j unt0).1 := fun j hj h0 => by
    have q := scan_all _ h2 j hj
    unfold uBad at q
    split at q
    · cases q
    split at q
    · cases q
    next q2 => exact Int.not_le.1 (fun e => q2 ⟨h0, e⟩)
  intro j
  induction j with
  | zero => intro _ i hi; omega
  | succ j ih =>
    intro hj i hi
    have := hs (j + 1) hj (by omega)
    rw [Nat.add_sub_cancel] at this
    by_cases e : i = j
    · subst e; exact this
    · exact Int.lt_trans (ih (by omega) i (by omega)) this
theorem frm_uniq {l : List Unt} (h : frmU l = 0) {u v : Unt} (hu : u ∈ l) (hv : v ∈ l) (e : u.1 = v.1) : u = v := by
  obtain ⟨i, hi, rfl⟩ := List.getElem_of_mem hu
  obtain ⟨j, hj, rfl⟩ := List.getElem_of_mem hv
  have e1 := getD_elem0 unt0 l i hi
  have e2 := getD_elem0 unt0 l j hj
  rw [← e1, ← e2] at e
  rcases Nat.lt_trichotomy i j with q | q | q
  · have := frm_ord h j hj i q; omega
  · subst q; rfl
  · have := frm_ord h i hi j q; omega
/-- Where a unit lies in its stratum. -/
theorem stU_at {l : List Unt} (h : frmU l = 0) {s : ByteArray} {u : Unt} (hu : u ∈ stU l s) : (stU l s).getD (iU (stU l s) u.1) unt0 = u := by
  have hlt := iU_lt hu
  obtain ⟨v, hv⟩ := fnd_ex (fun i => ((stU l s).getD i unt0).1 = u.1) (stU l s).length
  have hp : ((stU l s).getD (iU (stU l s) u.1) unt0).1 = u.1 := (fnd_idx (f := fun x : Unt => x.1) rfl ⟨u, hu, rfl⟩ hv).2.2
  exact frm_uniq h (stU_mem (by rw [getD_elem0 _ _ _ hlt]; exact List.getElem_mem _)) (stU_mem hu) hp
/-- Two cells: the result's, and a number's. -/
structure S3 (w0 : World) (φ0 : Phi) (br bo : Nat) (cs : Array Value) (ψ : Phi) (W : World) : Prop where
  r : RsSt w0 φ0 ψ br #[.string ⟨#[]⟩, .string ⟨#[]⟩] 33 W
  o : RsSt w0 φ0 ψ bo cs 55 W
  ne : bo ≠ br
section
variable {w0 W w' : World} {φ0 φ5 ψ ψ' : Phi} {br bo : Nat} {cs : Array Value}
theorem S3.call (h : S3 w0 φ0 br bo cs ψ W) (hi : Inv W.heap.size W ψ ψ' w') : S3 w0 φ0 br bo cs ψ' w' := ⟨h.r.call hi, h.o.call hi, h.ne⟩
theorem S3.callB (h : S3 w0 φ0 br bo cs ψ W) (hb : Below W.heap.size W w') : S3 w0 φ0 br bo cs ψ w' := ⟨h.r.callB hb, h.o.callB hb, h.ne⟩
theorem S3.sta (w0 : World) (φ0 : Phi) (br bo : Nat) (cs : Array Value) : StC (S3 w0 φ0 br bo cs) := ⟨fun h => h.r.inv.fz, fun h hi => h.call hi⟩
theorem S3.put {c0 c1 c2 : Value} (h : Hid (S3 w0 φ0 br bo #[c0, c1, c2] ψ W)) (u0 u1 u2 : Value) : S3 w0 φ0 br bo #[u0, u1, u2] ψ (((W.setCell ⟨bo, 0, none⟩ u0).setCell ⟨bo, 1, none⟩ u1).setCell ⟨bo, 2, none⟩ u2) :=
  ⟨((h.out.r.oth h.out.o h.out.ne 0 u0).oth (h.out.o.set 0 u0) h.out.ne 1 u1).oth ((h.out.o.set 0 u0).set 1 u1) h.out.ne 2 u2, ((h.out.o.set 0 u0).set 1 u1).set 2 u2, h.out.ne⟩
theorem S3.fin (h : Hid (S3 w0 φ0 br bo cs ψ W)) (u v : Value) : RsSt w0 φ0 ψ br #[u, v] 33 ((W.setCell ⟨br, 0, none⟩ u).setCell ⟨br, 1, none⟩ v) := (h.out.r.set 0 u).set 1 v
theorem S3.rf (h : Hid (S3 w0 φ0 br bo cs ψ W)) : W.cell? ⟨br, 0, none⟩ = some (.string ⟨#[]⟩) ∧ W.cell? ⟨br, 1, none⟩ = some (.string ⟨#[]⟩) ∧ W.frozen? ⟨br, 0, none⟩ = false ∧ W.frozen? ⟨br, 1, none⟩ = false := ⟨h.out.r.k.cell 0, h.out.r.k.cell 1, h.out.r.k.frz 0, h.out.r.k.frz 1⟩
theorem S3.of_ {c0 c1 c2 : Value} (h : Hid (S3 w0 φ0 br bo #[c0, c1, c2] ψ W)) : W.cell? ⟨bo, 0, none⟩ = some c0 ∧ W.cell? ⟨bo, 1, none⟩ = some c1 ∧ W.cell? ⟨bo, 2, none⟩ = some c2 ∧ W.frozen? ⟨bo, 0, none⟩ = false ∧ W.frozen? ⟨bo, 1, none⟩ = false ∧ W.frozen? ⟨bo, 2, none⟩ = false := ⟨h.out.o.k.cell 0, h.out.o.k.cell 1, h.out.o.k.cell 2, h.out.o.k.frz 0, h.out.o.k.frz 1, h.out.o.k.frz 2⟩
theorem S3.start (h : RsSt w0 φ0 ψ br #[.string ⟨#[]⟩, .string ⟨#[]⟩] 33 W) (cs : Array Value) : S3 w0 φ0 br W.heap.size cs ψ (W.alloc (.cells cs 55)) :=
  ⟨h.callB ((Below.refl _ _).alloc (Nat.le_refl _) _), RsSt.start h.inv _ _, by have := h.k.lt; omega⟩
variable {M : Nat}
theorem Rtake_K (h : Hid (S3 w0 φ0 br bo cs ψ W)) (hl : Hid (φ5.le ψ)) {kind : Int} {aT : Option Addr} {cT nT : Nat} {ts : List Tak} (st : Hid (SlV φ5 aT cT ts)) (hnT : Hid (ts.length = nT)) {z : ByteArray} {s : ByteArray} {t1 t2 : Int} (hz : Hid (tkOf ts z = (s, t1, t2))) :
    Calls Tryz.prog 33 #[.agg #[.int .i64 kind, .slice aT nT cT], .string z] W (fun e w' => e = .returned (.agg #[.string s, .int .i64 t1, .int .i64 t2]) ∧ Hid (S3 w0 φ0 br bo cs ψ w')) :=
  (Rtake_any h.out.r.inv.fz (st.out.mono hl.out) hnT hz).mono fun e w' q => ⟨q.1, Lib.hid (h.out.callB q.2)⟩
theorem Rplace_K (h : Hid (S3 w0 φ0 br bo cs ψ W)) (hl : Hid (φ5.le ψ)) {a : Option Addr} {c n : Nat} {l : List Unt} (sl : Hid (SlV φ5 a c l)) (hn : Hid (l.length = n)) {z v : Int} (hv : Hid (Fnd (fun i => (l.getD i unt0).1 = z) n v)) :
    Calls Tryz.prog 44 #[.slice a n c, .int .i64 z] W (fun e w' => e = .returned (.int .i64 v) ∧ Hid (S3 w0 φ0 br bo cs ψ w')) :=
  (placeOf_f h.out.r.inv.fz n a c l z (sl.out.mono hl.out) hn hv).mono fun e w' q => ⟨q.1, Lib.hid (h.out.callB q.2)⟩
/-- What a call that hands back a number leaves. -/
def FrK (w0 : World) (φ0 : Phi) (br bo : Nat) (cs : Array Value) (φ5 ψ : Phi) (x : Rat) (N : Nat) (e : Ending) (w' : World) : Prop :=
  ∃ (g : Bool) (a1 : Option Addr) (k1 c1 : Nat) (a2 : Option Addr) (k2 c2 : Nat) (ψ' : Phi), e = .returned (.agg #[.bool g, .slice a1 k1 c1, .slice a2 k2 c2]) ∧ Hid (S3 w0 φ0 br bo cs ψ' w') ∧ Hid (φ5.le ψ') ∧ Hid (ψ.le ψ') ∧ Hid (FrX ψ' (.agg #[.bool g, .slice a1 k1 c1, .slice a2 k2 c2]) x N N)
theorem FrK.of {x : Rat} {N : Nat} (hl : Hid (φ5.le ψ)) {e : Ending} (h : FrC (S3 w0 φ0 br bo cs) ψ x N N e w') : FrK w0 φ0 br bo cs φ5 ψ x N e w' := by
  obtain ⟨g, a1, k1, c1, a2, k2, c2, ψ', rfl, h1, h2, h3⟩ := h
  exact ⟨g, a1, k1, c1, a2, k2, c2, ψ', rfl, h1, Lib.hid (hl.out.trans h2.out), h2, h3⟩
theorem Rchance_K (hM : Hid (MOk M)) (hRD : Hid (RdivOk M)) (h : Hid (S3 w0 φ0 br bo cs ψ W)) (hl : Hid (φ5.le ψ)) {kind : Int} (hk : Hid (kind = 1 ∨ kind = 2 ∨ kind = 3)) {s : ByteArray} {t1 t2 : Int} {a : Option Addr} {c n : Nat} {us : List Unt} (sl : Hid (SlV φ5 a c us)) (hn : Hid (us.length = n)) (hln : n ≤ 5000) (hok : Hid (∀ u ∈ us, 1 ≤ u.2.2.2 ∧ u.2.2.2 ≤ 1000000)) (ht : Hid (TkOk kind (s, t1, t2) us))
    {u1 : Int} {u2 : ByteArray} {u3 u4 : Int} (hu : Hid ((u1, u2, u3, u4) ∈ us)) {NB : Nat} (hNB : Hid (100000000000000 * 100000000000000 ≤ NB ∧ NB ≤ M)) :
    Calls Tryz.prog 32 #[.int .i64 kind, .agg #[.string s, .int .i64 t1, .int .i64 t2], .slice a n c, .agg #[.int .i64 u1, .string u2, .int .i64 u3, .int .i64 u4]] W (FrK w0 φ0 br bo cs φ5 ψ (chR kind (s, t1, t2) us (u1, u2, u3, u4)) NB) :=
  (Rchance_any hM hRD hk.out h.out.r.inv.fz (sl.out.mono hl.out) hn hln hok ht hu hNB).mono fun e w' q => FrK.of hl (FrC.of (S3.sta w0 φ0 br bo cs) (Nat.le_refl _) (Nat.le_refl _) h q)
theorem Rjoint_K (hM : Hid (MOk M)) (hRD : Hid (RdivOk M)) (h : Hid (S3 w0 φ0 br bo cs ψ W)) (hl : Hid (φ5.le ψ)) {kind : Int} (hk : Hid (kind = 1 ∨ kind = 2 ∨ kind = 3)) {s : ByteArray} {t1 t2 : Int} {a : Option Addr} {c n : Nat} {us : List Unt} (sl : Hid (SlV φ5 a c us)) (hn : Hid (us.length = n)) (hln : n ≤ 5000) (hok : Hid (∀ u ∈ us, 1 ≤ u.2.2.2 ∧ u.2.2.2 ≤ 1000000)) (ht : Hid (TkOk kind (s, t1, t2) us))
    {i k : Nat} (hi : i < n) (hkn : k < n) {u1 : Int} {u2 : ByteArray} {u3 u4 : Int} (hu : Hid (us.getD i unt0 = (u1, u2, u3, u4))) {v1 : Int} {v2 : ByteArray} {v3 v4 : Int} (hv : Hid (us.getD k unt0 = (v1, v2, v3, v4))) (hiu : Hid (iU us u1 = i)) (hiv : Hid (iU us v1 = k)) (hne : Hid (u1 ≠ v1)) {NB : Nat} (hNB : Hid (100000000000000 * 100000000000000 * 100000000000000 ≤ NB ∧ NB ≤ M)) :
    Calls Tryz.prog 46 #[.int .i64 kind, .agg #[.string s, .int .i64 t1, .int .i64 t2], .slice a n c, .int .i64 (i : Int), .int .i64 (k : Int)] W (FrK w0 φ0 br bo cs φ5 ψ (jnR kind (s, t1, t2) us (u1, u2, u3, u4) (v1, v2, v3, v4)) NB) :=
  (Rjoint_any hM hRD hk.out h.out.r.inv.fz (sl.out.mono hl.out) hn hln hok ht hi hkn hu hv hiu hiv hne hNB).mono fun e w' q => FrK.of hl (FrC.of (S3.sta w0 φ0 br bo cs) (Nat.le_refl _) (Nat.le_refl _) h q)
theorem RTimes_K (hM : Hid (MOk M)) (hRD : Hid (RdivOk M)) (h : Hid (S3 w0 φ0 br bo cs ψ W)) (hl : Hid (φ5.le ψ)) {v1 v2 : Value} {x y : Rat} {N P : Nat} {ψ1 ψ2 : Phi} (h1 : Hid (FrX ψ1 v1 x N N)) (hl1 : Hid (ψ1.le ψ)) (h2 : Hid (FrX ψ2 v2 y N N)) (hl2 : Hid (ψ2.le ψ)) (hB : Hid (N * N ≤ M ∧ N * N ≤ M ∧ N ≤ M ∧ N ≤ M)) (hP : Hid (N * N ≤ P ∧ N * N ≤ P)) :
    Calls Tryz.prog 45 #[v1, v2] W (FrK w0 φ0 br bo cs φ5 ψ (x * y) P) :=
  (RTimes_C (S3.sta w0 φ0 br bo cs) hRD hM.out.b h1 hl1 h2 hl2 hB hP h).mono fun e w' q => FrK.of hl q
theorem RRatio_K (hM : Hid (MOk M)) (hRD : Hid (RdivOk M)) (h : Hid (S3 w0 φ0 br bo cs ψ W)) (hp : Hid (PowP φ5)) (hl : Hid (φ5.le ψ)) {v : Value} {x : Rat} {NB : Nat} (hv : Hid (FrX ψ v x NB NB)) (hNB : NB ≤ M) {S T : ByteArray} {F : Int} (hR : Hid (ratR x = (S, T, F))) :
    Calls Tryz.prog 35 #[v] W (fun e w' => e = .returned (.tuple #[.agg #[.string S, .string T], .int .i64 F]) ∧ Hid (S3 w0 φ0 br bo cs ψ w')) :=
  (RRatio_any hRD hM.out.b h.out.r.inv.fz (hp.out.mono hl.out) hv.out hNB hNB hR).mono fun e w' q => ⟨q.1, Lib.hid (h.out.callB q.2)⟩
end
theorem Rs2.rf {w0 W : World} {φ0 ψ : Phi} {br : Nat} (h : Hid (RsSt w0 φ0 ψ br #[.string ⟨#[]⟩, .string ⟨#[]⟩] 33 W)) : W.cell? ⟨br, 0, none⟩ = some (.string ⟨#[]⟩) ∧ W.cell? ⟨br, 1, none⟩ = some (.string ⟨#[]⟩) ∧ W.frozen? ⟨br, 0, none⟩ = false ∧ W.frozen? ⟨br, 1, none⟩ = false := ⟨h.out.k.cell 0, h.out.k.cell 1, h.out.k.frz 0, h.out.k.frz 1⟩
theorem Rof_R {w0 W : World} {φ0 φ5 ψ : Phi} {br : Nat} {cs : Array Value} {T : TypeId} (h : Hid (RsSt w0 φ0 ψ br cs T W)) (hl : Hid (φ5.le ψ)) {a : Option Addr} {c n : Nat} {l : List Unt} (sl : Hid (SlV φ5 a c l)) (hn : Hid (l.length = n)) (hln : n ≤ 5000) {z : ByteArray} {us : List Unt} {nu : Nat} (hus : Hid (stU l z = us)) (hnu : Hid (us.length = nu)) :
    Calls Tryz.prog 34 #[.slice a n c, .string z] W (fun e w' => ∃ a4 c4 ψ', e = .returned (.slice a4 nu c4) ∧ Hid (RsSt w0 φ0 ψ' br cs T w') ∧ Hid (φ5.le ψ') ∧ Hid (ψ.le ψ') ∧ Hid (SlV ψ' a4 c4 us)) :=
  (Rof_any h.out.inv.fz (sl.out.mono hl.out) hn hln z).mono fun e w' q => by
    obtain ⟨a4, c4, ψ', rfl, hi, s4⟩ := q
    rw [hus.out] at s4 ⊢
    rw [hnu.out]
    exact ⟨a4, c4, ψ', rfl, Lib.hid (h.out.call hi), Lib.hid (hl.out.trans hi.le), Lib.hid hi.le, Lib.hid s4⟩
end Go.Proofs.YtnlhalnjbkpdnaaGreatDoor

namespace Go.Proofs.YtnlhalnjbkpdnaaGreatDoor
open Go.RowKit Go.Sort
set_option linter.unusedVariables false
set_option linter.unusedSimpArgs false
set_option maxRecDepth 100000 in
set_option maxHeartbeats 8000000 in
theorem RJoint_any {M : Nat} (hM : Hid (MOk M)) (hRD : Hid (RdivOk M)) {w : World} {kind : Int} {aT : Option Addr} {cT nT : Nat} {ts : List Tak} {a : Option Addr} {c n : Nat} {l : List Unt} {φ : Phi} (hφ : Fz φ w) (hb_ : TabP φ) (hp : PowP φ) (st : SlV φ aT cT ts) (hnT : Hid (ts.length = nT)) (hmT : nT ≤ 9223372036854775807) (sl : SlV φ a c l) (hn : Hid (l.length = n)) (hm : n ≤ 9223372036854775807) (hs : Hid (∀ u ∈ l, u.2.1.size ≤ reachBytes)) {a0 b0 : Int} {S T : ByteArray} {F : Int} (hR : Hid (jntR kind ts l a0 b0 = ((S, T), F))) :
    Calls Tryz.prog 13 #[.agg #[.int .i64 kind, .slice aT nT cT], .slice a n c, .int .i64 a0, .int .i64 b0] w (fun e w' => e = .returned (.tuple #[.agg #[.string S, .string T], .int .i64 F]) ∧ Below w.heap.size w w') := by
  obtain ⟨φ1, le1, i1, k1⟩ := (Inv.start hφ).frz (.cells #[.int .i64 kind, .slice aT nT cT] 24)
  have hx0 := RsSt.start i1 #[.string ⟨#[]⟩, .string ⟨#[]⟩] 33
  simp only [alloc_sz] at hx0
  have HX0 : Hid (RsSt w φ φ1 (w.heap.size + 1) #[.string ⟨#[]⟩, .string ⟨#[]⟩] 33 ((w.alloc (.cells #[.int .i64 kind, .slice aT nT cT] 24)).alloc (.cells #[.string ⟨#[]⟩, .string ⟨#[]⟩] 33))) := Lib.hid hx0
  have HB0 := Lib.hid k1
  have ST := Lib.hid (st.mono le1)
  have SL := Lib.hid (sl.mono le1)
  have HP := Lib.hid (hp.mono le1)
  have HT := Lib.hid (hb_.mono le1)
  obtain ⟨q, hq⟩ : ∃ q, Hid (dsgF kind ts l = q) := ⟨_, Lib.hid rfl⟩
  clear le1 i1 k1 hx0 hφ st sl hp hb_
  by_cases hq0 : q = 0
  case neg =>
    have g0 : ((q : Int) != 0) = true := by simp [hq0]
    have hE : Hid (((⟨#[]⟩, ⟨#[]⟩), q) = (((S, T), F) : Rti × Int)) := Lib.hid (by rw [← hR.out]; unfold jntR; rw [hq.out, if_pos hq0])
    clear hq0
    go_enter Tryz.func13, Tryz.ntmps13
    go_upto_region 1 with (fail)
    generalize (w.alloc (.cells #[.int .i64 kind, .slice aT nT cT] 24)).alloc (.cells #[.string ⟨#[]⟩, .string ⟨#[]⟩] 33) = w1 at *
    have y0 : w1.cell? ⟨w.heap.size, 0, none⟩ = some (.int .i64 kind) := box_cell HB0.out (Phi.le_refl _) HX0.out.inv.fz 0
    have y1 : w1.cell? ⟨w.heap.size, 1, none⟩ = some (.slice aT nT cT) := box_cell HB0.out (Phi.le_refl _) HX0.out.inv.fz 1
    go_upto_region 2 with (go_at_call 10; (with_reducible refine (RCheckDesign_any HX0.out.inv.fz HT.out ST.out hnT hmT SL.out hn hm hs hq).mono ?_); rintro e w2 ⟨rfl, hb2⟩; have HX2 := Lib.hid (HX0.out.callB hb2); clear hb2 y0 y1)
    obtain ⟨r0, r1, r2, r3⟩ := Rs2.rf HX2
    go_wp2
    have hZ := Lib.hid ((HX2.out.set 0 (.string ⟨#[]⟩)).set 1 (.string ⟨#[]⟩))
    have e0 : _ = some (Value.string ⟨#[]⟩) := hZ.out.k.cell 0
    have e1 : _ = some (Value.string ⟨#[]⟩) := hZ.out.k.cell 1
    (try simp only [Exit.inBlock, Exit.then])
    refine bodyPost_ret (v := .tuple #[.agg #[.string ⟨#[]⟩, .string ⟨#[]⟩], .int .i64 q]) (by simp [results, Tryz.results13, go_sem, e0, e1]) rfl ?_
    have e := hE.out
    injection e with e1 e2
    injection e1 with e1 e3
    subst e1 e2 e3
    exact ⟨rfl, hZ.out.inv.bel⟩
  subst hq0
  have hD := Lib.hid (ds_ok hq.out)
  have hok := Lib.hid (frm_ok hD.out.frm)
  have hl : n ≤ 5000 := by have := hok.out.1; rw [hn.out] at this; exact this
  have hk3 := Lib.hid hD.out.kd
  obtain ⟨va, hva⟩ := fnd_ex (fun i => (l.getD i unt0).1 = a0) n
  obtain ⟨vb, hvb⟩ := fnd_ex (fun i => (l.getD i unt0).1 = b0) n
  have HVA := Lib.hid hva
  have HVB := Lib.hid hvb
  clear hva hvb
  go_enter Tryz.func13, Tryz.ntmps13
  go_upto_region 1 with (fail)
  generalize (w.alloc (.cells #[.int .i64 kind, .slice aT nT cT] 24)).alloc (.cells #[.string ⟨#[]⟩, .string ⟨#[]⟩] 33) = w1 at *
  have y0 : w1.cell? ⟨w.heap.size, 0, none⟩ = some (.int .i64 kind) := box_cell HB0.out (Phi.le_refl _) HX0.out.inv.fz 0
  have y1 : w1.cell? ⟨w.heap.size, 1, none⟩ = some (.slice aT nT cT) := box_cell HB0.out (Phi.le_refl _) HX0.out.inv.fz 1
  go_upto_region 2 with (go_at_call 10; (with_reducible refine (RCheckDesign_any HX0.out.inv.fz HT.out ST.out hnT hmT SL.out hn hm hs hq).mono ?_); rintro e w2 ⟨rfl, hb2⟩; have HX2 := Lib.hid (HX0.out.callB hb2); clear hb2 y0 y1)
  obtain ⟨r0, r1, r2, r3⟩ := Rs2.rf HX2
  clear r0 r1 r2 r3
  go_upto_region 5 with (go_at_call 44; (first
        | ((with_reducible refine (placeOf_f HX2.out.inv.fz n a c l a0 SL.out hn HVA).mono ?_); rintro e w3 ⟨rfl, hb3⟩; have HX3 := Lib.hid (HX2.out.callB hb3); clear hb3)
        | ((with_reducible refine (placeOf_f HX3.out.inv.fz n a c l b0 SL.out hn HVB).mono ?_); rintro e w4 ⟨rfl, hb4⟩; have HX4 := Lib.hid (HX3.out.callB hb4); clear hb4)))
  obtain ⟨r0, r1, r2, r3⟩ := Rs2.rf HX4
  by_cases ha : ∃ u ∈ l, u.1 = a0
  case neg =>
    have hE : Hid (((⟨#[]⟩, ⟨#[]⟩), 9) = (((S, T), F) : Rti × Int)) := Lib.hid (by rw [← hR.out]; unfold jntR; rw [hq.out, if_neg (by simp), if_neg (fun h => ha h.1)])
    have e1 : va = -1 := HVA.out.none (fun i hi e => ha ⟨_, by rw [getD_elem0 _ _ _ (by rw [hn.out]; exact hi)]; exact List.getElem_mem _, e⟩)
    subst e1
    clear ha
    go_wp2
    have hZ := Lib.hid ((HX4.out.set 0 (.string ⟨#[]⟩)).set 1 (.string ⟨#[]⟩))
    have e0 : _ = some (Value.string ⟨#[]⟩) := hZ.out.k.cell 0
    have e1 : _ = some (Value.string ⟨#[]⟩) := hZ.out.k.cell 1
    (try simp only [Exit.inBlock, Exit.then])
    refine bodyPost_ret (v := .tuple #[.agg #[.string ⟨#[]⟩, .string ⟨#[]⟩], .int .i64 9]) (by simp [results, Tryz.results13, go_sem, e0, e1]) rfl ?_
    have e := hE.out
    injection e with e1 e2
    injection e1 with e1 e3
    subst e1 e2 e3
    exact ⟨rfl, hZ.out.inv.bel⟩
  obtain ⟨ja1, ja2, ja3⟩ := fnd_idx (f := fun x : Unt => x.1) hn.out ha HVA.out
  obtain ⟨i, hi⟩ : ∃ i, iU l a0 = i := ⟨_, rfl⟩
  have q1 : va = (i : Int) := by rw [← hi]; exact ja1
  have q2 : i < n := by rw [← hi]; exact ja2
  have q3 : (l.getD i unt0).1 = a0 := by rw [← hi]; exact ja3
  subst q1
  clear ja1 ja2 ja3
  by_cases hb : ∃ u ∈ l, u.1 = b0
  case neg =>
    have hE : Hid (((⟨#[]⟩, ⟨#[]⟩), 9) = (((S, T), F) : Rti × Int)) := Lib.hid (by rw [← hR.out]; unfold jntR; rw [hq.out, if_neg (by simp), if_neg (fun h => hb h.2)])
    have e1 : vb = -1 := HVB.out.none (fun i hi e => hb ⟨_, by rw [getD_elem0 _ _ _ (by rw [hn.out]; exact hi)]; exact List.getElem_mem _, e⟩)
    subst e1
    have g1 : ¬ (i : Int) < 0 := by omega
    clear ha hb
    go_wp2
    have hZ := Lib.hid ((HX4.out.set 0 (.string ⟨#[]⟩)).set 1 (.string ⟨#[]⟩))
    have e0 : _ = some (Value.string ⟨#[]⟩) := hZ.out.k.cell 0
    have e1 : _ = some (Value.string ⟨#[]⟩) := hZ.out.k.cell 1
    (try simp only [Exit.inBlock, Exit.then])
    refine bodyPost_ret (v := .tuple #[.agg #[.string ⟨#[]⟩, .string ⟨#[]⟩], .int .i64 9]) (by simp [results, Tryz.results13, go_sem, e0, e1]) rfl ?_
    have e := hE.out
    injection e with e1 e2
    injection e1 with e1 e3
    subst e1 e2 e3
    exact ⟨rfl, hZ.out.inv.bel⟩
  obtain ⟨jb1, jb2, jb3⟩ := fnd_idx (f := fun x : Unt => x.1) hn.out hb HVB.out
  obtain ⟨k, hk⟩ : ∃ i, iU l b0 = i := ⟨_, rfl⟩
  have q4 : vb = (k : Int) := by rw [← hk]; exact jb1
  have q5 : k < n := by rw [← hk]; exact jb2
  have q6 : (l.getD k unt0).1 = b0 := by rw [← hk]; exact jb3
  subst q4
  clear jb1 jb2 jb3
  have hE : Hid ((shtT (prR kind ts l (l.getD i unt0) (l.getD k unt0)), 0) = (((S, T), F) : Rti × Int)) := Lib.hid (by rw [← hR.out]; unfold jntR; rw [hq.out, if_neg (by simp), if_pos ⟨ha, hb⟩, hi, hk])
  have hik : Hid (a0 = b0 → i = k) := Lib.hid (fun e => by rw [← hi, ← hk, e])
  clear ha hb hi hk
  have hmi : l.getD i unt0 ∈ l := by rw [getD_elem0 _ _ _ (by rw [hn.out]; exact q2)]; exact List.getElem_mem _
  have hmk : l.getD k unt0 ∈ l := by rw [getD_elem0 _ _ _ (by rw [hn.out]; exact q5)]; exact List.getElem_mem _
  obtain ⟨b, off, rfl, f⟩ := SL.out.untD hn q2
  have F1 := Lib.hid (f i q2)
  have F2 := Lib.hid (f k q5)
  have hsame : Hid (i = k → l.getD i unt0 = l.getD k unt0) := Lib.hid (fun e => by rw [e])
  clear f
  generalize l.getD i unt0 = U at *
  generalize l.getD k unt0 = V at *
  obtain ⟨u1, u2, u3, u4⟩ := U
  obtain ⟨v1, v2, v3, v4⟩ := V
  dsimp only at q3 q6 F1 F2
  have H3 := Lib.hid q3
  have H6 := Lib.hid q6
  clear q3 q6
  have tku := hD.out.tak u2 (mem_nmsL.2 ⟨_, hmi, rfl⟩)
  have tkv := hD.out.tak v2 (mem_nmsL.2 ⟨_, hmk, rfl⟩)
  have hpr : Hid (prR kind ts l (u1, u2, u3, u4) (v1, v2, v3, v4) = if u1 = v1 then chR kind (tkOf ts u2) (stU l u2) (u1, u2, u3, u4) else if u2 = v2 then jnR kind (tkOf ts u2) (stU l u2) (u1, u2, u3, u4) (v1, v2, v3, v4) else chR kind (tkOf ts u2) (stU l u2) (u1, u2, u3, u4) * chR kind (tkOf ts v2) (stU l v2) (v1, v2, v3, v4)) := Lib.hid rfl
  have hmu : Hid ((u1, u2, u3, u4) ∈ stU l u2) := Lib.hid (List.mem_filter.2 ⟨hmi, by simp⟩)
  have hmv : Hid ((v1, v2, v3, v4) ∈ stU l v2) := Lib.hid (List.mem_filter.2 ⟨hmk, by simp⟩)
  have bu : (stU l u2).length ≤ 5000 := Nat.le_trans (stU_len l u2) (by rw [hn.out]; exact hl)
  have bv : (stU l v2).length ≤ 5000 := Nat.le_trans (stU_len l v2) (by rw [hn.out]; exact hl)
  have oku : Hid (∀ u ∈ stU l u2, 1 ≤ u.2.2.2 ∧ u.2.2.2 ≤ 1000000) := Lib.hid (fun u hu => (hok.out.2.2 u (stU_mem hu)).2.2)
  have okv : Hid (∀ u ∈ stU l v2, 1 ≤ u.2.2.2 ∧ u.2.2.2 ≤ 1000000) := Lib.hid (fun u hu => (hok.out.2.2 u (stU_mem hu)).2.2)
  have huv : Hid (u2 = v2 → stU l u2 = stU l v2) := Lib.hid (fun e => by rw [e])
  have hatu : Hid ((stU l u2).getD (iU (stU l u2) u1) unt0 = (u1, u2, u3, u4)) := Lib.hid (stU_at hD.out.frm hmu.out)
  have hatv : Hid (u2 = v2 → (stU l u2).getD (iU (stU l u2) v1) unt0 = (v1, v2, v3, v4)) := Lib.hid (fun e => stU_at hD.out.frm (show (v1, v2, v3, v4) ∈ stU l u2 by rw [e]; exact hmv.out))
  have hltu : iU (stU l u2) u1 < (stU l u2).length := iU_lt hmu.out
  have hltv : Hid (u2 = v2 → iU (stU l u2) v1 < (stU l u2).length) := Lib.hid (fun e => iU_lt (u := (v1, v2, v3, v4)) (show (v1, v2, v3, v4) ∈ stU l u2 by rw [e]; exact hmv.out))
  obtain ⟨tu, hTu⟩ : ∃ t, Hid (tkOf ts u2 = t) := ⟨_, Lib.hid rfl⟩
  obtain ⟨tv, hTv⟩ : ∃ t, Hid (tkOf ts v2 = t) := ⟨_, Lib.hid rfl⟩
  obtain ⟨us, hus⟩ : ∃ us, Hid (stU l u2 = us) := ⟨_, Lib.hid rfl⟩
  obtain ⟨vs, hvs⟩ : ∃ vs, Hid (stU l v2 = vs) := ⟨_, Lib.hid rfl⟩
  have hEo := hE.out
  injection hEo with e1 e2
  have HF0 := Lib.hid e2
  rw [hpr.out, hTu.out, hTv.out, hus.out, hvs.out] at e1
  have hmu := hmu.out
  have hmv := hmv.out
  have oku := oku.out
  have okv := okv.out
  have huv := huv.out
  have hatu := hatu.out
  have hatv := hatv.out
  have hltv := hltv.out
  rw [hTu.out, hus.out] at tku
  rw [hTv.out, hvs.out] at tkv
  rw [hus.out] at hmu bu oku hatu hatv hltu hltv huv
  rw [hvs.out] at hmv bv okv huv
  obtain ⟨s, t1, t2⟩ := tu
  obtain ⟨s', t1', t2'⟩ := tv
  obtain ⟨nu, hnu⟩ : ∃ x, Hid (us.length = x) := ⟨_, Lib.hid rfl⟩
  obtain ⟨nv, hnv⟩ : ∃ x, Hid (vs.length = x) := ⟨_, Lib.hid rfl⟩
  rw [hnu.out] at bu hltu hltv
  rw [hnv.out] at bv
  have Qa := Lib.hid (ch_qu hk3.out (by rw [hnu.out]; exact bu) oku tku hmu)
  have Qb := Lib.hid (ch_qu hk3.out (by rw [hnv.out]; exact bv) okv tkv hmv)
  have HE1 := Lib.hid e1
  have HMU := Lib.hid hmu
  have HMV := Lib.hid hmv
  have OKU := Lib.hid oku
  have OKV := Lib.hid okv
  have HUV := Lib.hid huv
  have HATU := Lib.hid hatu
  have HATV := Lib.hid hatv
  have HLTV := Lib.hid hltv
  have TKU := Lib.hid tku
  have TKV := Lib.hid tkv
  clear e1 e2 hmu hmv oku okv huv hatu hatv hltv tku tkv hpr hE hmi hmk
  have g1 : ¬ (i : Int) < 0 := by omega
  have g2 : ¬ (k : Int) < 0 := by omega
  have g3 : (0 : Int) ≤ (i : Int) := by omega
  have g4 : (i : Int) < n := by omega
  have g5 : (0 : Int) ≤ (k : Int) := by omega
  have g6 : (k : Int) < n := by omega
  have hS9 := fun (W : World) (hf : Fz φ1 W) => (⟨(F1.out W hf).2, (F2.out W hf).2⟩ : (W.cell? ⟨b, off + i * 4, none⟩ = some (.int .i64 u1) ∧ W.cell? ⟨b, off + i * 4 + 1, none⟩ = some (.string u2) ∧ W.cell? ⟨b, off + i * 4 + 2, none⟩ = some (.int .i64 u3) ∧ W.cell? ⟨b, off + i * 4 + 3, none⟩ = some (.int .i64 u4)) ∧ (W.cell? ⟨b, off + k * 4, none⟩ = some (.int .i64 v1) ∧ W.cell? ⟨b, off + k * 4 + 1, none⟩ = some (.string v2) ∧ W.cell? ⟨b, off + k * 4 + 2, none⟩ = some (.int .i64 v3) ∧ W.cell? ⟨b, off + k * 4 + 3, none⟩ = some (.int .i64 v4)))
  clear r0 r1 r2 r3
  go_upto_region 7 with (fail)
  have hF1 : Fz φ1 w4 := HX4.out.inv.fz
  have hN : ∀ g, w4.heap.size ≤ g → φ1 g = none := fun g hg => HX4.out.inv.fz.new_none hg
  apply wp_region_cutV (fun (j : Nat × Nat) => [(39, .slice (some ⟨b, off, none⟩) n c), (40, .int .i64 (i : Int)), (41, .pointer (some ⟨b, off + i * 4, none⟩)), (42, .agg #[.int .i64 u1, .string u2, .int .i64 u3, .int .i64 u4]), (43, .slice (some ⟨b, off, none⟩) n c), (44, .int .i64 (k : Int)), (45, .pointer (some ⟨b, off + k * 4, none⟩)), (46, .agg #[.int .i64 v1, .string v2, .int .i64 v3, .int .i64 v4]), (13, .pointer (some ⟨j.1, 0, none⟩)), (14, .pointer (some ⟨j.2, 0, none⟩))])
    (fun j W => Bx2 w φ φ1 (w.heap.size + 1) j.1 (.cells #[.int .i64 u1, .string u2, .int .i64 u3, .int .i64 u4] 64) j.2 (.cells #[.int .i64 v1, .string v2, .int .i64 v3, .int .i64 v4] 64) W)
  case h1 =>
    intro KK hKK
    go_region_held3 (fun W => (W.cell? ⟨b, off + i * 4, none⟩ = some (.int .i64 u1) ∧ W.cell? ⟨b, off + i * 4 + 1, none⟩ = some (.string u2) ∧ W.cell? ⟨b, off + i * 4 + 2, none⟩ = some (.int .i64 u3) ∧ W.cell? ⟨b, off + i * 4 + 3, none⟩ = some (.int .i64 u4)) ∧ (W.cell? ⟨b, off + k * 4, none⟩ = some (.int .i64 v1) ∧ W.cell? ⟨b, off + k * 4 + 1, none⟩ = some (.string v2) ∧ W.cell? ⟨b, off + k * 4 + 2, none⟩ = some (.int .i64 v3) ∧ W.cell? ⟨b, off + k * 4 + 3, none⟩ = some (.int .i64 v4))) (first | ((with_reducible refine hS9 _ ?_); repeat (first | with_reducible exact hF1 | (with_reducible refine Fz.drew1 ?_) | (with_reducible refine Fz.alloc ?_ _) | (with_reducible refine Fz.setN ?_ hN (by simp) _))) | fail) (first | fail)
    all_goals
      refine onlyN_mk ?_
      have hk := fun x y W s => hKK.out (x, y) W s
      simp only [updA, List.foldl_cons, List.foldl_nil, List.setIfInBounds_toArray, List.set_cons_succ, List.set_cons_zero] at hk
      first
        | exact hk _ _ _ (Bx2.one HX4.out _ _)
        | exact hk _ _ _ (Bx2.two HX4.out _ _)
  case h2 =>
  rintro ⟨bx, by_⟩ W7 hF7
  simp only [updA, List.foldl_cons, List.foldl_nil, List.setIfInBounds_toArray, List.set_cons_succ, List.set_cons_zero]
  obtain ⟨φ2, hX2, hle2, hbx, hby⟩ := hF7
  have HX7 := Lib.hid hX2
  have L12 := Lib.hid hle2
  have HBX := Lib.hid hbx
  have HBY := Lib.hid hby
  have SL7 := Lib.hid (SL.out.mono hle2)
  have hfc7 := fun (W : World) (hf : Fz φ2 W) => (⟨(hf.blk hbx).cell 1, (hf.blk hby).cell 1⟩ : W.cell? ⟨bx, 1, none⟩ = some (.string u2) ∧ W.cell? ⟨by_, 1, none⟩ = some (.string v2))
  have HXd : Hid (RsSt w φ φ2 (w.heap.size + 1) #[.string ⟨#[]⟩, .string ⟨#[]⟩] 33 W7.drew) := Lib.hid (hX2.drewN 1)
  have LR2 : Hid (φ2.le φ2) := Lib.hid φ2.le_refl
  clear hX2 hle2 hbx hby hN hF1 hS9 g1 g2 g3 g4 g5 g6 F1 F2
  go_upto_region 8 with (fail)
  apply wp_region_cutV (fun (j : (Option Addr × Nat) × (Option Addr × Nat)) => [(47, .slice (some ⟨b, off, none⟩) n c), (48, .pointer (some ⟨bx, 1, none⟩)), (49, .string u2), (50, .slice j.1.1 nu j.1.2), (51, .slice (some ⟨b, off, none⟩) n c), (52, .pointer (some ⟨by_, 1, none⟩)), (53, .string v2), (54, .slice j.2.1 nv j.2.2), (15, .slice j.1.1 nu j.1.2), (16, .slice j.2.1 nv j.2.2)])
    (fun j W => ∃ ψ, RsSt w φ ψ (w.heap.size + 1) #[.string ⟨#[]⟩, .string ⟨#[]⟩] 33 W ∧ φ2.le ψ ∧ SlV ψ j.1.1 j.1.2 us ∧ SlV ψ j.2.1 j.2.2 vs)
  case h1 =>
    intro KK hKK
    go_region_held3 (fun W => W.cell? ⟨bx, 1, none⟩ = some (.string u2) ∧ W.cell? ⟨by_, 1, none⟩ = some (.string v2)) (first | with_reducible exact hfc7 _ HXd.out.inv.fz | with_reducible exact hfc7 _ (by with_reducible assumption) | fail) (first
      | (go_at_call 34; (first
          | ((with_reducible refine (Rof_R (by with_reducible assumption) (by with_reducible assumption) SL7 hn hl hus hnu).mono ?_); rintro e wB ⟨aB, cB, φB, rfl, HB, LB, QB, SB⟩; have FB : Fz φ2 wB := HB.out.inv.fz.sub LB.out)
          | ((with_reducible refine (Rof_R (by with_reducible assumption) (by with_reducible assumption) SL7 hn hl hvs hnv).mono ?_); rintro e wC ⟨aC, cC, φC, rfl, HC, LC, QC, SC⟩; have FC : Fz φ2 wC := HC.out.inv.fz.sub LC.out)))
      | fail)
    all_goals
      refine onlyN_mk ?_
      have hk := fun a b c d W s => hKK.out ((a, b), (c, d)) W s
      simp only [updA, List.foldl_cons, List.foldl_nil, List.setIfInBounds_toArray, List.set_cons_succ, List.set_cons_zero] at hk
      first
        | exact hk _ _ _ _ _ ⟨_, HC.out, LC.out, SB.out.mono QC.out, SC.out⟩
        | exact hk _ _ _ _ _ ⟨_, HB.out, LB.out, SB.out, SC.out.mono QB.out⟩
  case h2 =>
  rintro ⟨⟨aB, cB⟩, aC, cC⟩ W8 ⟨φ4, hX8, hle4, sB, sC⟩
  simp only [updA, List.foldl_cons, List.foldl_nil, List.setIfInBounds_toArray, List.set_cons_succ, List.set_cons_zero]
  have HX8 := Lib.hid hX8
  have L14 := Lib.hid (L12.out.trans hle4)
  have SB := Lib.hid sB
  have SC := Lib.hid sC
  have ST8 := Lib.hid (ST.out.mono L14.out)
  have HBX := Lib.hid (hle4 _ _ HBX.out)
  have HBY := Lib.hid (hle4 _ _ HBY.out)
  have HBD := Lib.hid (L14.out _ _ HB0.out)
  clear hX8 hle4 sB sC hfc7 HXd HX7
  have y0 : W8.cell? ⟨w.heap.size, 0, none⟩ = some (.int .i64 kind) := box_cell HBD.out (Phi.le_refl _) HX8.out.inv.fz 0
  have y1 : W8.cell? ⟨w.heap.size, 1, none⟩ = some (.slice aT nT cT) := box_cell HBD.out (Phi.le_refl _) HX8.out.inv.fz 1
  have y2 : W8.cell? ⟨bx, 1, none⟩ = some (.string u2) := box_cell HBX.out (Phi.le_refl _) HX8.out.inv.fz 1
  go_upto_region 12 with (go_at_call 33; (with_reducible refine (Rtake_any HX8.out.inv.fz ST8.out hnT hTu).mono ?_); rintro e w9 ⟨rfl, hb9⟩; have HX9 := Lib.hid (HX8.out.callB hb9); clear hb9 y0 y1 y2)
  obtain ⟨φ5, le5, i5, k5⟩ := (Inv.start HX9.out.inv.fz).frz (.cells #[.string s, .int .i64 t1, .int .i64 t2] 73)
  have HS0 := Lib.hid (S3.start (HX9.out.call i5) #[.bool false, .slice none 0 0, .slice none 0 0])
  have HBT := Lib.hid k5
  have HBX := Lib.hid (le5 _ _ HBX.out)
  have HBY := Lib.hid (le5 _ _ HBY.out)
  have HBD := Lib.hid (le5 _ _ HBD.out)
  have SU5 := Lib.hid (SB.out.mono le5)
  have SV5 := Lib.hid (SC.out.mono le5)
  have ST5 := Lib.hid (ST8.out.mono le5)
  have HP5 := Lib.hid (HP.out.mono (L14.out.trans le5))
  clear i5 k5 le5 SB SC ST8
  simp only [alloc_sz] at HS0 ⊢
  generalize w9.heap.size + 1 = bo at *
  generalize (w9.alloc (.cells #[.string s, .int .i64 t1, .int .i64 t2] 73)).alloc (.cells #[.bool false, .slice none 0 0, .slice none 0 0] 55) = W10 at *
  generalize w9.heap.size = bt at *
  have hfc := fun (W : World) (hf : Fz φ5 W) => (⟨⟨(hf.blk HBD.out).cell 0, (hf.blk HBD.out).cell 1⟩, ⟨(hf.blk HBT.out).cell 0, (hf.blk HBT.out).cell 1, (hf.blk HBT.out).cell 2⟩, ⟨(hf.blk HBX.out).cell 0, (hf.blk HBX.out).cell 1, (hf.blk HBX.out).cell 2, (hf.blk HBX.out).cell 3⟩, ⟨(hf.blk HBY.out).cell 0, (hf.blk HBY.out).cell 1, (hf.blk HBY.out).cell 2, (hf.blk HBY.out).cell 3⟩⟩ :
    (W.cell? ⟨w.heap.size, 0, none⟩ = some (.int .i64 kind) ∧ W.cell? ⟨w.heap.size, 1, none⟩ = some (.slice aT nT cT)) ∧ (W.cell? ⟨bt, 0, none⟩ = some (.string s) ∧ W.cell? ⟨bt, 1, none⟩ = some (.int .i64 t1) ∧ W.cell? ⟨bt, 2, none⟩ = some (.int .i64 t2)) ∧ (W.cell? ⟨bx, 0, none⟩ = some (.int .i64 u1) ∧ W.cell? ⟨bx, 1, none⟩ = some (.string u2) ∧ W.cell? ⟨bx, 2, none⟩ = some (.int .i64 u3) ∧ W.cell? ⟨bx, 3, none⟩ = some (.int .i64 u4)) ∧ (W.cell? ⟨by_, 0, none⟩ = some (.int .i64 v1) ∧ W.cell? ⟨by_, 1, none⟩ = some (.string v2) ∧ W.cell? ⟨by_, 2, none⟩ = some (.int .i64 v3) ∧ W.cell? ⟨by_, 3, none⟩ = some (.int .i64 v4)))
  have LR : Hid (φ5.le φ5) := Lib.hid φ5.le_refl
  have HXd : Hid (S3 w φ (w.heap.size + 1) bo #[.bool false, .slice none 0 0, .slice none 0 0] φ5 W10.drew) := Lib.hid (HS0.out.callB (bdrewN (Below.refl _ W10) 1))
  have HFC := Lib.hid hfc
  obtain ⟨⟨c0, c1⟩, ⟨c2, c3, c4⟩, ⟨c5, c6, c7, c8⟩, c9, c10, c11, c12⟩ := hfc W10 HS0.out.r.inv.fz
  have hM1 := hM.out.m
  have hE1 := HE1.out
  have hM56 : 100000000000000 * 100000000000000 * (100000000000000 * 100000000000000) ≤ M := Nat.le_trans (Nat.mul_le_mul (Nat.le_trans (show 100000000000000 * 100000000000000 ≤ 10 ^ 28 by decide) (p10_mono (by decide))) (Nat.le_trans (show 100000000000000 * 100000000000000 ≤ 10 ^ 28 by decide) (p10_mono (by decide)))) hM1
  have HM56 := Lib.hid hM56
  have HM42 : Hid (100000000000000 * 100000000000000 * 100000000000000 ≤ M) := Lib.hid (Nat.le_trans (by decide) hM56)
  have HM28 : Hid (100000000000000 * 100000000000000 ≤ M) := Lib.hid (Nat.le_trans (by decide) hM56)
  have N28 : Hid (100000000000000 * 100000000000000 ≤ 100000000000000 * 100000000000000 ∧ 100000000000000 * 100000000000000 ≤ M) := Lib.hid ⟨Nat.le_refl _, HM28.out⟩
  have N42 : Hid (100000000000000 * 100000000000000 * 100000000000000 ≤ 100000000000000 * 100000000000000 * 100000000000000 ∧ 100000000000000 * 100000000000000 * 100000000000000 ≤ M) := Lib.hid ⟨Nat.le_refl _, HM42.out⟩
  clear hM1 hM56
  by_cases hab : a0 = b0
  · have eab : ((a0 : Int) == b0) = true := by simp [hab]
    rw [if_pos (by rw [H3.out, H6.out]; exact hab)] at hE1
    have hRR := Lib.hid ((show QuF _ from ⟨_, _, Qa.out, by decide, by decide⟩).sht hE1).1
    have hNBM := HM28.out
    clear hE1 hfc hab
    go_upto_region 13 with (fail)
    obtain ⟨f0, f1, f2, f3, f4, f5⟩ := S3.of_ HS0
    go_upto_region 16 with (go_at_call 32; (with_reducible refine (Rchance_K hM hRD HS0 LR hk3 SU5 hnu bu OKU TKU HMU N28).mono ?_); rintro e wZ ⟨gZ, aZ, kZ, cZ, dZ, lZ, eZ, φZ, rfl, HZ, LZ, QZ, XZ⟩; clear f0 f1 f2 f3 f4 f5 c0 c1 c2 c3 c4 c5 c6 c7 c8 c9 c10 c11 c12; obtain ⟨f0, f1, f2, f3, f4, f5⟩ := S3.of_ HZ)
    clear f0 f1 f2 f3 f4 f5
    go_upto_region 16 with (fail)
    have HS6 := Lib.hid (S3.put HZ (.bool gZ) (.slice aZ kZ cZ) (.slice dZ lZ eZ))
    generalize ((wZ.setCell ⟨bo, 0, none⟩ (.bool gZ)).setCell ⟨bo, 1, none⟩ (.slice aZ kZ cZ)).setCell ⟨bo, 2, none⟩ (.slice dZ lZ eZ) = W6 at *
    obtain ⟨f0, f1, f2, _⟩ := S3.of_ HS6
    go_wp2_with (go_at_call 35; (with_reducible refine (RRatio_K hM hRD HS6 HP5 LZ XZ hNBM hRR).mono ?_); rintro e w17 ⟨rfl, HS7⟩; obtain ⟨r0, r1, r2, r3⟩ := S3.rf HS7)
    have hZ := Lib.hid ((HS7.out.r.set 0 (.string S)).set 1 (.string T))
    have e0 : _ = some (Value.string S) := hZ.out.k.cell 0
    have e1 : _ = some (Value.string T) := hZ.out.k.cell 1
    (try simp only [Exit.inBlock, Exit.then])
    refine bodyPost_ret (v := .tuple #[.agg #[.string S, .string T], .int .i64 0]) (by simp [results, Tryz.results13, go_sem, e0, e1]) rfl ?_
    exact ⟨by rw [HF0.out], hZ.out.inv.bel⟩
  have eab : ((a0 : Int) == b0) = false := by simp [hab]
  rw [if_neg (by rw [H3.out, H6.out]; exact hab)] at hE1
  by_cases hst : u2 = v2
  · have gst : (u2.toList == v2.toList) = true := str_eq_t hst
    rw [if_pos hst] at hE1
    have HMV2 : (v1, v2, v3, v4) ∈ us := by rw [HUV.out hst]; exact HMV.out
    have HNE : Hid (u1 ≠ v1) := Lib.hid (by rw [H3.out, H6.out]; exact hab)
    have Qj := jn_qu hk3.out (by rw [hnu.out]; exact bu) OKU.out TKU.out HMU.out HMV2 HNE.out
    have hRR := Lib.hid ((show QuF _ from ⟨_, _, Qj, by decide, by decide⟩).sht hE1).1
    have hNBM := HM42.out
    have hltv := HLTV.out hst
    have HAV := Lib.hid (HATV.out hst)
    obtain ⟨wa, hwa⟩ := fnd_ex (fun i => (us.getD i unt0).1 = a0) nu
    obtain ⟨wb, hwb⟩ := fnd_ex (fun i => (us.getD i unt0).1 = b0) nu
    obtain ⟨wa1, _, _⟩ := fnd_idx (f := fun x : Unt => x.1) hnu.out ⟨_, HMU.out, H3.out⟩ hwa
    obtain ⟨wb1, _, _⟩ := fnd_idx (f := fun x : Unt => x.1) hnu.out ⟨_, HMV2, H6.out⟩ hwb
    obtain ⟨iu, hiu⟩ : ∃ x, Hid (iU us u1 = x) := ⟨_, Lib.hid rfl⟩
    obtain ⟨iv, hiv⟩ : ∃ x, Hid (iU us v1 = x) := ⟨_, Lib.hid rfl⟩
    have wa2 : wa = (iu : Int) := by rw [← hiu.out, H3.out]; exact wa1
    have wb2 : wb = (iv : Int) := by rw [← hiv.out, H6.out]; exact wb1
    subst wa2 wb2
    have HWA := Lib.hid hwa
    have HWB := Lib.hid hwb
    rw [hiu.out] at hltu
    rw [hiv.out] at hltv
    have HAU := HATU.out
    rw [hiu.out] at HAU
    have HAU := Lib.hid HAU
    have HAV := HAV.out
    rw [hiv.out] at HAV
    have HAV := Lib.hid HAV
    clear hE1 hab Qj hwa hwb wa1 wb1 HMV2
    go_upto_region 11 with (fail)
    clear c0 c1 c2 c3 c4 c5 c6 c7 c8 c9 c10 c11 c12 eab gst hst
    have hf5 := fun (W : World) (hf : Fz φ5 W) => (⟨(hfc W hf).1.1, (hfc W hf).2.1⟩ : W.cell? ⟨w.heap.size, 0, none⟩ = some (.int .i64 kind) ∧ (W.cell? ⟨bt, 0, none⟩ = some (.string s) ∧ W.cell? ⟨bt, 1, none⟩ = some (.int .i64 t1) ∧ W.cell? ⟨bt, 2, none⟩ = some (.int .i64 t2)))
    clear hfc
    go_region_held3 (fun W => W.cell? ⟨w.heap.size, 0, none⟩ = some (.int .i64 kind) ∧ (W.cell? ⟨bt, 0, none⟩ = some (.string s) ∧ W.cell? ⟨bt, 1, none⟩ = some (.int .i64 t1) ∧ W.cell? ⟨bt, 2, none⟩ = some (.int .i64 t2))) (first | with_reducible exact hf5 _ HXd.out.r.inv.fz | with_reducible exact hf5 _ ((S3.put HZ _ _ _).r.inv.fz.sub LZ.out) | with_reducible exact hf5 _ (by with_reducible assumption) | fail) (first
      | (go_at_call 44; (first
          | ((with_reducible refine (Rplace_K (by with_reducible assumption) LR SU5 hnu HWA).mono ?_); rintro e wB ⟨rfl, HB⟩; have FB : Fz φ5 wB := HB.out.r.inv.fz)
          | ((with_reducible refine (Rplace_K (by with_reducible assumption) LR SU5 hnu HWB).mono ?_); rintro e wB ⟨rfl, HB⟩; have FB : Fz φ5 wB := HB.out.r.inv.fz)))
      | (go_at_call 46; (with_reducible refine (Rjoint_K hM hRD (by with_reducible assumption) LR hk3 SU5 hnu bu OKU TKU hltu hltv HAU HAV hiu hiv HNE N42).mono ?_); rintro e wZ ⟨gZ, aZ, kZ, cZ, dZ, lZ, eZ, φZ, rfl, HZ, LZ, QZ, XZ⟩; have FZ : Fz φ5 wZ := HZ.out.r.inv.fz.sub LZ.out; obtain ⟨f0, f1, f2, f3, f4, f5⟩ := S3.of_ HZ)
      | fail)
    all_goals
      clear f0 f1 f2 f3 f4 f5
      go_upto_region 16 with (fail)
      have HS6 := Lib.hid (S3.put HZ (.bool gZ) (.slice aZ kZ cZ) (.slice dZ lZ eZ))
      generalize ((wZ.setCell ⟨bo, 0, none⟩ (.bool gZ)).setCell ⟨bo, 1, none⟩ (.slice aZ kZ cZ)).setCell ⟨bo, 2, none⟩ (.slice dZ lZ eZ) = W6 at *
      obtain ⟨f0, f1, f2, _⟩ := S3.of_ HS6
      go_wp2_with (go_at_call 35; (with_reducible refine (RRatio_K hM hRD HS6 HP5 LZ XZ hNBM hRR).mono ?_); rintro e w17 ⟨rfl, HS7⟩; obtain ⟨r0, r1, r2, r3⟩ := S3.rf HS7)
      have hZ := Lib.hid ((HS7.out.r.set 0 (.string S)).set 1 (.string T))
      have e0 : _ = some (Value.string S) := hZ.out.k.cell 0
      have e1 : _ = some (Value.string T) := hZ.out.k.cell 1
      (try simp only [Exit.inBlock, Exit.then])
      refine bodyPost_ret (v := .tuple #[.agg #[.string S, .string T], .int .i64 0]) (by simp [results, Tryz.results13, go_sem, e0, e1]) rfl ?_
      exact ⟨by rw [HF0.out], hZ.out.inv.bel⟩
  · have gst : (u2.toList == v2.toList) = false := str_eq_f hst
    rw [if_neg hst] at hE1
    have hRR := Lib.hid ((show QuF _ from ⟨_, _, Qa.out.mul Qb.out, by decide, by decide⟩).sht hE1).1
    have hNBM := HM56.out
    have hBB : Hid (100000000000000 * 100000000000000 * (100000000000000 * 100000000000000) ≤ M ∧ 100000000000000 * 100000000000000 * (100000000000000 * 100000000000000) ≤ M ∧ 100000000000000 * 100000000000000 ≤ M ∧ 100000000000000 * 100000000000000 ≤ M) := Lib.hid ⟨HM56.out, HM56.out, HM28.out, HM28.out⟩
    have hPP : Hid (100000000000000 * 100000000000000 * (100000000000000 * 100000000000000) ≤ 100000000000000 * 100000000000000 * (100000000000000 * 100000000000000) ∧ 100000000000000 * 100000000000000 * (100000000000000 * 100000000000000) ≤ 100000000000000 * 100000000000000 * (100000000000000 * 100000000000000)) := Lib.hid ⟨Nat.le_refl _, Nat.le_refl _⟩
    clear hE1 hab
    go_upto_region 15 with (fail)
    clear c0 c1 c2 c3 c4 c5 c6 c7 c8 c9 c10 c11 c12 eab gst hst
    go_region_held3 (fun W => (W.cell? ⟨w.heap.size, 0, none⟩ = some (.int .i64 kind) ∧ W.cell? ⟨w.heap.size, 1, none⟩ = some (.slice aT nT cT)) ∧ (W.cell? ⟨bt, 0, none⟩ = some (.string s) ∧ W.cell? ⟨bt, 1, none⟩ = some (.int .i64 t1) ∧ W.cell? ⟨bt, 2, none⟩ = some (.int .i64 t2)) ∧ (W.cell? ⟨bx, 0, none⟩ = some (.int .i64 u1) ∧ W.cell? ⟨bx, 1, none⟩ = some (.string u2) ∧ W.cell? ⟨bx, 2, none⟩ = some (.int .i64 u3) ∧ W.cell? ⟨bx, 3, none⟩ = some (.int .i64 u4)) ∧ (W.cell? ⟨by_, 0, none⟩ = some (.int .i64 v1) ∧ W.cell? ⟨by_, 1, none⟩ = some (.string v2) ∧ W.cell? ⟨by_, 2, none⟩ = some (.int .i64 v3) ∧ W.cell? ⟨by_, 3, none⟩ = some (.int .i64 v4))) (first | with_reducible exact hfc _ HXd.out.r.inv.fz | with_reducible exact hfc _ ((S3.put HZ _ _ _).r.inv.fz.sub LZ.out) | with_reducible exact hfc _ (by with_reducible assumption) | fail) (first
      | (go_at_call 33; (with_reducible refine (Rtake_K (by with_reducible assumption) (by with_reducible assumption) ST5 hnT hTv).mono ?_); rintro e wA ⟨rfl, HA⟩; have FA : Fz φ5 wA := HA.out.r.inv.fz.sub (by first | exact LC.out | exact LB.out | exact LR.out))
      | (go_at_call 32; (first
          | ((with_reducible refine (Rchance_K hM hRD (by with_reducible assumption) (by with_reducible assumption) hk3 SU5 hnu bu OKU TKU HMU N28).mono ?_); rintro e wB ⟨gB, aB_, kB, cB_, dB, lB, eB, φB, rfl, HB, LB, QB, XB⟩; have FB : Fz φ5 wB := HB.out.r.inv.fz.sub LB.out; have RB := Lib.hid φB.le_refl)
          | ((with_reducible refine (Rchance_K hM hRD (by with_reducible assumption) (by with_reducible assumption) hk3 SV5 hnv bv OKV TKV HMV N28).mono ?_); rintro e wC ⟨gC, aC_, kC, cC_, dC, lC, eC, φC, rfl, HC, LC, QC, XC⟩; have FC : Fz φ5 wC := HC.out.r.inv.fz.sub LC.out; have RC := Lib.hid φC.le_refl)))
      | (go_at_call 45; (with_reducible refine (RTimes_K (φ5 := φ5) hM hRD (by with_reducible assumption) (by with_reducible assumption) XB (by with_reducible assumption) XC (by with_reducible assumption) hBB hPP).mono ?_); rintro e wZ ⟨gZ, aZ, kZ, cZ, dZ, lZ, eZ, φZ, rfl, HZ, LZ, QZ, XZ⟩; have FZ : Fz φ5 wZ := HZ.out.r.inv.fz.sub LZ.out; obtain ⟨f0, f1, f2, f3, f4, f5⟩ := S3.of_ HZ)
      | fail)
    all_goals
      clear f0 f1 f2 f3 f4 f5
      go_upto_region 16 with (fail)
      have HS6 := Lib.hid (S3.put HZ (.bool gZ) (.slice aZ kZ cZ) (.slice dZ lZ eZ))
      generalize ((wZ.setCell ⟨bo, 0, none⟩ (.bool gZ)).setCell ⟨bo, 1, none⟩ (.slice aZ kZ cZ)).setCell ⟨bo, 2, none⟩ (.slice dZ lZ eZ) = W6 at *
      obtain ⟨f0, f1, f2, _⟩ := S3.of_ HS6
      go_wp2_with (go_at_call 35; (with_reducible refine (RRatio_K hM hRD HS6 HP5 LZ XZ hNBM hRR).mono ?_); rintro e w17 ⟨rfl, HS7⟩; obtain ⟨r0, r1, r2, r3⟩ := S3.rf HS7)
      have hZ := Lib.hid ((HS7.out.r.set 0 (.string S)).set 1 (.string T))
      have e0 : _ = some (Value.string S) := hZ.out.k.cell 0
      have e1 : _ = some (Value.string T) := hZ.out.k.cell 1
      (try simp only [Exit.inBlock, Exit.then])
      refine bodyPost_ret (v := .tuple #[.agg #[.string S, .string T], .int .i64 0]) (by simp [results, Tryz.results13, go_sem, e0, e1]) rfl ?_
      exact ⟨by rw [HF0.out], hZ.out.inv.bel⟩
end Go.Proofs.YtnlhalnjbkpdnaaGreatDoor
