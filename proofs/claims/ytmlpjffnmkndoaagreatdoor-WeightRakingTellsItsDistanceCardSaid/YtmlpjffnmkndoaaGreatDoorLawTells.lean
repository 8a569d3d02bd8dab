/- The law WeightRakingTellsItsDistance returns true for every input and leaves its arguments as they were: the form's frame round the walk of U22. Conditions: none. -/
import Derived.Test.YtmlpjffnmkndoaaGreatDoorRows
import Derived.Test.YtmlpjffnmkndoaaGreatDoorLB
import Derived.Test.YtmlpjffnmkndoaaGreatDoorCards
import Derived.Test.YtmlpjffnmkndoaaGreatDoorTie
import Derived.SevenTiedAt
import Derived.LaidMore
import Derived.MakeChecks
import Derived.Deep.DeepLaidRun
import Derived.Stop.LaidErr
import Derived.Lib.LaidTab
import Derived.ProofKit
import Derived.OpenShut
import Derived.Stop.Joined
import Derived.Lay
import Derived.Test.YtmlpjffnmkndoaaGreatDoorUC
import Derived.Test.YtmlpjffnmkndoaaGreatDoorJY
import Derived.Test.YtmlpjffnmkndoaaGreatDoorHR
import Derived.Test.YtmlpjffnmkndoaaGreatDoorHT
namespace Go.Proofs.YtmlpjffnmkndoaaGreatDoor
open Go.RowKit
set_option linter.unusedVariables false
set_option linter.unusedSimpArgs false
section
variable {m : List Mgn} {l : List Psn} {pl rd : Int} {d : Rti}
theorem rakR_none {v : Rkd} {F : Int} (h : rakR m l pl rd d = (v, F)) (hF : F ≠ 0) : v = rkd0 := by
 unfold rakR at h
 split at h
 ·injection h with h1 _; exact h1.symm
 ·split at h
  ·injection h with h1 _; exact h1.symm
  ·split at h
   ·injection h with h1 _; exact h1.symm
   ·split at h
    ·injection h with h1 _; exact h1.symm
    ·split at h
     ·injection h with h1 _; exact h1.symm
     ·unfold rakE at h
      split at h
      ·injection h with h1 _; exact h1.symm
      ·split at h
       ·injection h with h1 _; exact h1.symm
       ·injection h with _ h2; exact absurd h2.symm hF
theorem rakR_good {L : List Rti} {q : Int} {S T : ByteArray} {b : Bool} {nm n : Nat} (hm : m.length = nm) (hn : l.length = n) (h : rakR m l pl rd d = ((L, q, (S, T), b), 0)) : ppmF m l = 0 ∧ rkF pl rd d = 0 ∧ ∃ p R t : Nat, pl = (p : Int) ∧ rd = (R : Int) ∧ q = (t : Int) ∧ shtR (rkW (10 ^ p) m l n t) = (L, 0) ∧ ratR (dsM (rkW (10 ^ p) m l n t) m l n nm) = (S, T, 0) ∧ b = decide (dsM (rkW (10 ^ p) m l n t) m l n nm ≤ ratX d.1 d.2) ∧ (t = R ∨ dsM (rkW (10 ^ p) m l n t) m l n nm ≤ ratX d.1 d.2) := by
 subst hm hn
 have e1 : ppmF m l = 0 := Classical.byContradiction (fun hne => by
  rw [rakR_bad rfl hne] at h
  injection h with _ h2
  exact hne h2)
 have e2 : rkF pl rd d = 0 := Classical.byContradiction (fun hne => by
  rw [rakR_fault e1 rfl hne] at h
  injection h with _ h2
  exact hne h2)
 refine ⟨e1, e2, ?_⟩
 obtain ⟨⟨p, hp, _⟩, ⟨R, hR, _⟩, _, _⟩ := rkF_ok e2
 rw [rakR_pass e1 e2] at h
 subst hp hR
 rw [Int.toNat_natCast, Int.toNat_natCast] at h
 split at h
 ·injection h with _ h2; exact absurd h2 (by decide)
 ·obtain ⟨t, ht⟩ : ∃ t, rkT (10 ^ p) m l R (ratX d.1 d.2) = t := ⟨_, rfl⟩
  have hsp := (rkS_spec (g := rkG (10 ^ p) m l (ratX d.1 d.2)) R 0).1
  have ht2 : rkS (rkG (10 ^ p) m l (ratX d.1 d.2)) R 0 = t := ht
  rw [ht] at h
  rw [ht2] at hsp
  refine ⟨p, R, t, rfl, rfl, ?_⟩
  unfold rakE at h
  split at h
  ·next hne => injection h with _ h2; exact absurd h2 hne
  ·next h1 =>
   split at h
   ·next hne => injection h with _ h2; exact absurd h2 hne
   ·next h2 =>
    have h1 : (shtR (rkW (10 ^ p) m l l.length t)).2 = 0 := by simpa using h1
    have h2 : (ratR (dsQ m l (rkW (10 ^ p) m l l.length t))).2.2 = 0 := by simpa using h2
    injection h with h3 _
    injection h3 with h4 h5
    injection h5 with h6 h7
    injection h7 with h8 h9
    injection h8 with h10 h11
    refine ⟨h6.symm, by rw [← h4, ← h1], ?_, h9.symm, ?_⟩
    ·show ratR (dsQ m l (rkW (10 ^ p) m l l.length t)) = (S, T, 0)
     rw [← h10, ← h11, ← h2]
    ·rcases hsp with q | q
     ·exact .inl (by omega)
     ·exact .inr (Rat.not_lt.1 (of_decide_eq_false q))
end
/-- What lasts over calls, and perhaps one box. -/
structure OpN (E : TypeId) (w0 : World) (φ0 φ : Phi) (q : Option Nat) (ds : Array Value) (W : World) : Prop where
 inv : Inv w0.heap.size w0 φ0 φ W
 o : ∀ x, q = some x → RsSt w0 φ0 φ x ds E W
section
variable {E : TypeId} {w0 W w' : World} {φ0 φ φ' : Phi} {x : Nat} {ds : Array Value} {q : Option Nat}
theorem OpN.call (h : OpN E w0 φ0 φ q ds W) (hi : Inv W.heap.size W φ φ' w') : OpN E w0 φ0 φ' q ds w' := ⟨h.inv.call hi, fun x hx => (h.o x hx).call hi⟩
theorem OpN.callB (h : OpN E w0 φ0 φ q ds W) (hb : Below W.heap.size W w') : OpN E w0 φ0 φ q ds w' := ⟨h.inv.callB hb, fun x hx => (h.o x hx).callB hb⟩
theorem OpN.dr (h : Hid (OpN E w0 φ0 φ q ds W)) : Hid (OpN E w0 φ0 φ q ds W.drew) := Lib.hid (h.out.callB (bdrewN (Below.refl _ W) 1))
theorem OpN.mk1 (h : Inv w0.heap.size w0 φ0 φ W) (ds : Array Value) : OpN E w0 φ0 φ (some W.heap.size) ds (W.alloc (.cells ds E)) :=
 ⟨h.alloc _, fun x hx => (by cases hx; exact RsSt.start h _ _)⟩
theorem OpN.al (h : Hid (OpN E w0 φ0 φ Option.none #[.bool false, .slice Option.none 0 0, .slice Option.none 0 0] W)) : Hid (OpN E w0 φ0 φ (some W.heap.size) #[.bool false, .slice Option.none 0 0, .slice Option.none 0 0] (W.alloc (.cells #[.bool false, .slice Option.none 0 0, .slice Option.none 0 0] E))) := Lib.hid (OpN.mk1 h.out.inv _)
theorem OpN.fa {u0 u1 u2 : Value} (h : Hid (OpN E w0 φ0 φ (some x) #[u0, u1, u2] W)) : W.cell? ⟨x, 0, Option.none⟩ = some u0 ∧ W.cell? ⟨x, 1, Option.none⟩ = some u1 ∧ W.cell? ⟨x, 2, Option.none⟩ = some u2 ∧ W.frozen? ⟨x, 0, Option.none⟩ = false ∧ W.frozen? ⟨x, 1, Option.none⟩ = false ∧ W.frozen? ⟨x, 2, Option.none⟩ = false :=
 ⟨(h.out.o x rfl).k.cell 0, (h.out.o x rfl).k.cell 1, (h.out.o x rfl).k.cell 2, (h.out.o x rfl).k.frz 0, (h.out.o x rfl).k.frz 1, (h.out.o x rfl).k.frz 2⟩
theorem OpN.put {v0 v1 v2 : Value} (h : Hid (OpN E w0 φ0 φ (some x) #[v0, v1, v2] W)) (u0 u1 u2 : Value) : OpN E w0 φ0 φ (some x) #[u0, u1, u2] (((W.setCell ⟨x, 0, Option.none⟩ u0).setCell ⟨x, 1, Option.none⟩ u1).setCell ⟨x, 2, Option.none⟩ u2) := by
 have hr := ((h.out.o x rfl).set 0 u0 |>.set 1 u1).set 2 u2
 exact ⟨hr.inv, fun y hy => (by cases hy; exact hr)⟩
theorem OpN.sta (E : TypeId) (w0 : World) (φ0 : Phi) (q : Option Nat) (ds : Array Value) : Sta (fun φ W => OpN E w0 φ0 φ q ds W) := ⟨fun h => h.inv.fz, fun h hi => h.call hi⟩
end
theorem RBelow_T {P : Phi → World → Prop} (hP : Sta P) {v : Value} {x : Rat} {N D : Nat} {φ ψ : Phi} {W : World} (h1 : Hid (FrX ψ v x N D)) (hl : Hid (ψ.le φ)) {b : Bool} (hb : Hid (decide (x < 0) = b)) (hS : Hid (P φ W)) :
  Calls Tryz.prog 16 #[v] W (fun e w' => e = .returned (.bool b) ∧ Hid (P φ w')) :=
 (RBelow_any (hP.fz hS.out) (h1.out.mono hl.out) hb).mono (fun en w' hp => ⟨hp.1, Lib.hid (hP.callB hS.out hp.2)⟩)
/-- The bounds that the law wants. -/
structure TlB (M B n N : Nat) : Prop where
 c1 : n * B * B ^ n ≤ M
 c2 : B ^ n ≤ M
 c3 : n * B * B ^ n * N + N * B ^ n ≤ M
 c4 : B ^ n * N ≤ M
 c5 : (n * B * B ^ n * N + N * B ^ n) * B + B * (B ^ n * N) ≤ M
 c6 : B ^ n * N * B ≤ M
 c7 : B * N + N * B ≤ M
 c8 : B * N ≤ M
theorem ten_addT {a b i j k : Nat} (h1 : a ≤ 10 ^ i) (h2 : b ≤ 10 ^ j) (hi : i ≤ k) (hj : j ≤ k) : a + b ≤ 10 ^ (k + 1) := by
 have h3 := ten_le h1 hi
 have h4 := ten_le h2 hj
 rw [Nat.pow_succ]
 omega
theorem tlB_ten {M K n N B k : Nat} (hN : Hid (N = 1000000000000)) (hBk : Hid (B ≤ 10 ^ k)) (hK : Hid (10 ^ K ≤ M)) {m : Nat} (hn : n ≤ m) (hm : m ≤ 10000) (hK2 : 60 + 2 * k + k * m ≤ K) : TlB M B n N := by
  have h1 : N ≤ 10 ^ 12 := by rw [hN.out]; decide
  have h0 : n ≤ 10 ^ 4 := by have : (10 : Nat) ^ 4 = 10000 := by decide
                             omega
  have h3 := ten_pow hBk.out hn
  have h5 := ten_mul (ten_mul h0 hBk.out) h3
  have fin : ∀ {a i : Nat}, a ≤ 10 ^ i → i ≤ K → a ≤ M := fun h hi => Nat.le_trans (ten_le h hi) hK.out
  have hA := ten_addT (ten_mul h5 h1) (ten_mul h1 h3) (k := 29 + k + k * m) (by omega) (by omega)
  have hD := ten_mul h3 h1
  exact ⟨fin h5 (by omega), fin h3 (by omega), fin hA (by omega), fin hD (by omega), fin (ten_addT (ten_mul hA hBk.out) (ten_mul hBk.out hD) (k := 40 + 2 * k + k * m) (by omega) (by omega)) (by omega), fin (ten_mul hD hBk.out) (by omega), fin (ten_addT (ten_mul hBk.out h1) (ten_mul h1 hBk.out) (k := 40 + 2 * k + k * m) (by omega) (by omega)) (by omega), fin (ten_mul hBk.out h1) (by omega)⟩
theorem tlB_p {K n N k m : Nat} (hN : Hid (N = 1000000000000)) (hn : n ≤ m) (hm : m ≤ 10000) (hK2 : 60 + 2 * k + k * m ≤ K) : TlB (p10 K) (p10 k) n N := tlB_ten (K := K) (k := k) hN (Lib.hid (Nat.le_refl _)) (Lib.hid (Nat.le_refl _)) hn hm hK2
theorem rkB_tenT {M K n N : Nat} (hN : Hid (N = 1000000000000)) (hK : Hid (10 ^ K ≤ M)) (hK2 : 150000 ≤ K) (hn : n ≤ 3000) : RkB M N n := by
  have h1 : N ≤ 10 ^ 12 := by rw [hN.out]; decide
  have h0 : n ≤ 10 ^ 4 := by have : (10 : Nat) ^ 4 = 10000 := by decide
                             omega
  have two : 2 ≤ 10 ^ 1 := by decide
  obtain ⟨m, hm⟩ : ∃ m, m = 3000 := ⟨_, rfl⟩
  rw [← hm] at hn
  have h3 := ten_pow h1 hn
  have h2 := ten_mul h1 h1
  have h5 := ten_mul (ten_mul h0 h2) h3
  have fin : ∀ {a i : Nat}, a ≤ 10 ^ i → i ≤ K → a ≤ M := fun h hi => Nat.le_trans (ten_le h hi) hK.out
  have hf : FtB M (N * N) N n N := ⟨fin h5 (by omega), fin h3 (by omega), fin (ten_mul h1 h3) (by omega), fin (ten_mul h1 h5) (by omega), fin (ten_mul h2 (ten_mul h1 h3)) (by omega), fin (ten_mul h1 (ten_mul h1 h5)) (by omega), fin h2 (by omega), fin (ten_mul h2 h1) (by omega), fin h2 (by omega), fin h1 (by omega)⟩
  have hD := ten_mul h3 h1
  have hA := ten_addT (ten_mul h5 h1) (ten_mul h1 h3) (k := 60 + 12 * m) (by omega) (by omega)
  refine ⟨hf, ?_, fin (ten_mul (ten_mul h1 (ten_mul h1 h5)) two) (by omega), fin hA (by omega), fin hD (by omega), ?_, fin (ten_mul hD hD) (by omega), ?_, fin (ten_mul hD h1) (by omega), fin h2 (by omega), fin h1 (by omega)⟩
  · exact fin (ten_addT (ten_mul (ten_mul (ten_mul h2 (ten_mul h1 h3)) h1) two) (ten_mul h1 (ten_mul h1 h5)) (k := 70 + 12 * m) (by omega) (by omega)) (by omega)
  · exact fin (ten_addT (ten_mul hA hD) (ten_mul hA hD) (k := 90 + 24 * m) (by omega) (by omega)) (by omega)
  · exact fin (ten_addT (ten_mul hA h1) (ten_mul h1 hD) (k := 90 + 24 * m) (by omega) (by omega)) (by omega)
theorem rkB_pT {K n N : Nat} (hN : Hid (N = 1000000000000)) (hK2 : 150000 ≤ K) (hn : n ≤ 3000) : RkB (p10 K) N n := rkB_tenT (K := K) hN (Lib.hid (Nat.le_refl _)) hK2 hn
theorem cmpQ_lit {x y : Rat} (h : x ≤ y) : cmpQ x y = -1 ∨ cmpQ x y = 0 := by
 unfold cmpQ
 rcases Rat.le_iff_lt_or_eq.1 h with q | q
 ·rw [if_pos q]; exact .inl rfl
 ·rw [if_neg (by rw [q]; exact Rat.lt_irrefl), if_pos q]; exact .inr rfl
set_option maxRecDepth 100000 in
set_option maxHeartbeats 8000000 in
theorem tells_core {M : Nat} (hM : LenB M) (hD : Hid (DivOk M)) (hRD : Hid (RdivOk M)) (hM2 : p10 2000 ≤ M) {N : Nat} (hN : Hid (N = 1000000000000)) {mm : List Mgn} {nm cm : Nat} {am : Option Addr} {n : Nat} (hB : Hid (n ≤ 3000 → RkB M N n)) {B : Nat} (hBe : Hid (p10 2000 = B)) (hTB : Hid (n ≤ 3000 → TlB M B n N)) {a : Option Addr} {cap : Nat} {l : List Psn} {pl rd : Int} {s t : ByteArray} (hs : s.size ≤ 9223372036854775807) (ht : t.size ≤ 9223372036854775807) {w : World} {φ : Phi} (hφ : Fz φ w) (hp : PowP φ) (sm : SlV φ am cm mm) (hnm : Hid (mm.length = nm)) (hgm : Hid (∀ x ∈ mm, MgnG x)) (sl : SlV φ a cap l) (hn : Hid (l.length = n)) (hsz : Hid (∀ p ∈ l, PsnG p)) :
  Calls Tryz.prog 4 #[.slice am nm cm, .slice a n cap, .agg #[.int .i64 pl, .int .i64 rd, .string s, .string t]] w (fun e w' => e = .returned (.bool true) ∧ Below w.heap.size w w') := by
 obtain ⟨r, hR0⟩ : ∃ r, rakR mm l pl rd (s, t) = r := ⟨_, rfl⟩
 obtain ⟨⟨L, q, ⟨S, T⟩, b⟩, F⟩ := r
 have hR := Lib.hid hR0
 obtain ⟨m, hm⟩ : ∃ m, Hid (L.length = m) := ⟨_, Lib.hid rfl⟩
 have hmx : Hid (((L, q, (S, T), b), F).1.1.length = m) := hm
 have hnl : n ≤ 9223372036854775807 := by have := sl.capn; have := sl.capm; rw [hn.out] at *; unfold maxLen at *; omega
 have hnml : nm ≤ 9223372036854775807 := by have := sm.capn; have := sm.capm; rw [hnm.out] at *; unfold maxLen at *; omega
 obtain ⟨φb, lb, ib, eb⟩ := (Inv.start hφ).frz (.cells #[.int .i64 pl, .int .i64 rd, .string s, .string t] 42)
 have HI := Lib.hid ib
 have EB := Lib.hid eb
 have LB0 := Lib.hid lb
 have HS := Lib.hid (sl.mono lb)
 have HM := Lib.hid (sm.mono lb)
 have HP := Lib.hid (hp.mono lb)
 have HM2 := Lib.hid hM2
 clear hφ hp sl sm lb ib eb hR0 hM2
 go_enter Tryz.func4, Tryz.ntmps4
 go_upto_region 1 with fail
 generalize w.alloc (.cells #[.int .i64 pl, .int .i64 rd, .string s, .string t] 42) = wx at *
 obtain ⟨br, hbr⟩ : ∃ b, w.heap.size = b := ⟨_, rfl⟩
 rw [hbr] at EB ⊢
 have HBR := Lib.hid hbr
 clear hbr
 have x0 : wx.cell? ⟨br, 0, none⟩ = some (.int .i64 pl) := box_cell EB.out φb.le_refl HI.out.fz 0
 have x1 : wx.cell? ⟨br, 1, none⟩ = some (.int .i64 rd) := box_cell EB.out φb.le_refl HI.out.fz 1
 have x2 : wx.cell? ⟨br, 2, none⟩ = some (.string s) := box_cell EB.out φb.le_refl HI.out.fz 2
 have x3 : wx.cell? ⟨br, 3, none⟩ = some (.string t) := box_cell EB.out φb.le_refl HI.out.fz 3
 go_upto_region 2 with (go_at_call 13; (with_reducible refine (Rake_any hD hM HM2.out hN hB HI.out.fz HP.out HM.out hnm hgm HS.out hn hsz hs ht hR).mono ?_); rintro en w1 ⟨a1, c1, φ1, rfl, hi1, s1⟩; rw [hmx.out]; have I1 := Lib.hid (HI.out.call hi1); have S1 := Lib.hid s1; have L1 := Lib.hid hi1.le; clear hi1 s1)
 clear x0 x1 x2 x3
 obtain ⟨φ2, l2, i2, e2⟩ := (Inv.start I1.out.fz).frz (.cells #[.slice a1 m c1, .int .i64 q, .string S, .string T, .bool b] 44)
 have I2 := Lib.hid (I1.out.call i2)
 have E7 := Lib.hid e2
 have S2 := Lib.hid (S1.out.mono l2)
 have L2 := Lib.hid (L1.out.trans l2)
 have HP2 := Lib.hid (HP.out.mono L2.out)
 have HM2' := Lib.hid (HM.out.mono L2.out)
 have HS2 := Lib.hid (HS.out.mono L2.out)
 have EB2 := Lib.hid (L2.out _ _ EB.out)
 clear i2 e2 l2 I1 S1 L1 EB HP HM HS HI
 try dsimp only
 generalize w1.alloc (.cells #[.slice a1 m c1, .int .i64 q, .string S, .string T, .bool b] 44) = w2 at *
 generalize w1.heap.size = b7 at *
 have hbx := Lib.hid (fun (ψ : Phi) (W : World) (hl : φ2.le ψ) (hf : Fz ψ W) => (⟨box_cell E7.out hl hf 0, box_cell E7.out hl hf 1, box_cell E7.out hl hf 2, box_cell E7.out hl hf 3, box_cell E7.out hl hf 4⟩ : W.cell? ⟨b7, 0, none⟩ = some (.slice a1 m c1) ∧ W.cell? ⟨b7, 1, none⟩ = some (.int .i64 q) ∧ W.cell? ⟨b7, 2, none⟩ = some (.string S) ∧ W.cell? ⟨b7, 3, none⟩ = some (.string T) ∧ W.cell? ⟨b7, 4, none⟩ = some (.bool b)))
 obtain ⟨x0, x1, x2, x3, x4⟩ := hbx.out φ2 w2 φ2.le_refl I2.out.fz
 by_cases hF0 : F = 0
 case neg =>
  have hv := rakR_none hR.out hF0
  have h0i : (F == 0) = false := by simp [hF0]
  have h0j : (F != 0) = true := by simp [hF0]
  injection hv with e1 e2
  injection e2 with e2 e3
  injection e3 with e3 e4
  subst e1 e2 e4
  obtain rfl : m = 0 := hm.out.symm
  clear hF0
  go_wp2
  go_ret
  exact ⟨rfl, HBR.out ▸ I2.out.bel⟩
 case pos =>
 subst hF0
 obtain ⟨hf, hkf, p, R, u, rfl, rfl, rfl, hsh, hrr, hbb, hend⟩ := rakR_good hnm.out hn.out hR.out
 obtain ⟨P, hP⟩ : ∃ P, 10 ^ p = P := ⟨_, rfl⟩
 rw [hP] at hsh hrr hbb hend
 clear hR hP
 obtain ⟨_, _, hsho, _⟩ := rkF_ok hkf
 obtain ⟨q1, q2, q3, q4, q5⟩ := ppmF_cells hnm.out hn.out hf
 have hnm8 := q1
 have hn3 := q2
 have hnt40 := Lib.hid q4
 have hcel := Lib.hid q5
 obtain ⟨e1, e2⟩ := shtR_back hsh
 rw [rkW_len] at e1 e2
 obtain ⟨d1, d2⟩ := ratR_back hrr
 have hLl : Hid (L.length = n) := Lib.hid e1
 have hmn : m = n := hm.out.symm.trans e1
 subst hmn
 have hLr : Hid (∀ k, k < m → ratF (L.getD k rti0).1 (L.getD k rti0).2 = 0) := Lib.hid (fun k hk => (e2 k hk).1)
 have hLk : Hid (∀ k, k < m → RatOk (L.getD k rti0).1 (L.getD k rti0).2) := Lib.hid (fun k hk => ratF_ok (e2 k hk).1)
 have hLb : Hid (∀ k, k < m → dV (bodyB (L.getD k rti0).1).data.toList ≤ B ∧ dV (L.getD k rti0).2.data.toList ≤ B) := Lib.hid (fun k hk => by rw [← hBe.out]; exact ratB_le (hLk.out k hk))
 have hST := Lib.hid (ratF_ok d1)
 have hSTf := Lib.hid d1
 have hSTb : Hid (dV (bodyB S).data.toList ≤ B ∧ dV T.data.toList ≤ B) := Lib.hid (by rw [← hBe.out]; exact ratB_le hST.out)
 obtain ⟨hSs, hTs⟩ := rat_size d1
 obtain ⟨ws, hws⟩ : ∃ x, rkW P mm l m u = x := ⟨_, rfl⟩
 rw [hws] at e2 hbb hend d2
 have hv : Hid (∀ k, k < m → ratX (L.getD k rti0).1 (L.getD k rti0).2 = (fun j => ws.getD j 0) k) := Lib.hid (fun k hk => (e2 k hk).2)
 obtain ⟨ds, hds⟩ : ∃ x, dsM ws mm l m nm = x := ⟨_, rfl⟩
 rw [hds] at hbb hend d2
 have hdx := Lib.hid d2
 have hall : Hid (∀ i c, i < nm → c < (mm.getD i mgn0).2.length → abQ (celQ (fun j => ws.getD j 0) l i (c : Int) m - ttQ (mm.getD i mgn0).2 c) ≤ ds) := Lib.hid (fun i c hi hc => by rw [← hds]; exact dsM_all hc nm hi)
 have hT : Hid (∀ i, i < nm → ∀ r ∈ (mm.getD i mgn0).2, shoF r.1 r.2 = 0) := Lib.hid (fun i hi r hr => (ppmF_tot hnm.out hf i hi r hr).1)
 have hB1 : 1 ≤ B := by rw [← hBe.out]; exact p10_pos
 obtain ⟨k1, k2, k3, k4, k5, k6, k7, k8⟩ := hTB.out hn3
 have hM1 := Lib.hid (And.intro k1 k2)
 have HBM := Lib.hid (And.intro k3 k4)
 obtain ⟨NB, hNB⟩ : ∃ x, m * B * B ^ m = x := ⟨_, rfl⟩
 obtain ⟨DB, hDB⟩ : ∃ x, B ^ m = x := ⟨_, rfl⟩
 rw [hNB] at k5
 rw [hDB] at k5 k6
 have HBM' : Hid (NB * N + N * DB ≤ M ∧ DB * N ≤ M) := Lib.hid (by rw [← hNB, ← hDB]; exact HBM.out)
 obtain ⟨ND, hND⟩ : ∃ x, NB * N + N * DB = x := ⟨_, rfl⟩
 obtain ⟨DD, hDD⟩ : ∃ x, DB * N = x := ⟨_, rfl⟩
 have HMR : Hid (NB * N + N * DB ≤ ND ∧ DB * N ≤ DD) := Lib.hid ⟨Nat.le_of_eq hND, Nat.le_of_eq hDD⟩
 rw [hND, hDD] at k5
 rw [hDD] at k6
 have HBC := Lib.hid (And.intro k5 k6)
 have HBQ := Lib.hid (And.intro k7 k8)
 have HNB := Lib.hid hNB
 have HDB := Lib.hid hDB
 have hnn : ((m : Int) != (m : Int)) = false := by simp
 have hrf := Lib.hid (ratF_ok (shoF_ok hsho).1)
 have hbd : Hid (dV (bodyB s).data.toList ≤ N ∧ dV t.data.toList ≤ N) := Lib.hid (by rw [hN.out]; exact sho_lt hsho)
 obtain ⟨e, he⟩ : ∃ e, Hid (ratX s t = e) := ⟨_, Lib.hid rfl⟩
 have hcl := Lib.hid (fun (i c nt : Nat) (x : Rat) (hi : i < nm) (hnt9 : (mm.getD i mgn0).2.length = nt) (hc : c < nt) (hx : celQ (fun j => ws.getD j 0) l i (c : Int) m = x) => (⟨by rw [← hnt9]; exact hnt40.out i hi, Lib.hid (fun j hj => by rw [← hnt9]; exact hcel.out i hi j hj), by have := hnt40.out i hi; omega, Lib.hid hx⟩ : nt ≤ 40 ∧ Hid (∀ j, j < m → i < (l.getD j psn0).2.1.length ∧ ∃ c : Nat, c < nt ∧ celI l i j = (c : Int)) ∧ c ≤ 40 ∧ Hid (celQ (fun j => ws.getD j 0) l i (c : Int) m = x)))
 have hbq := Lib.hid hbb
 have hen := Lib.hid hend
 clear q1 q2 q3 q4 q5 e1 e2 d1 d2 hws hds hNB hDB hND hDD k1 k2 k3 k4 k5 k6 k7 k8 hsh hrr hbb hend hf hkf hsho hTB hB hm hmx
 have hbq2 : Hid (b = decide (ds ≤ e)) := Lib.hid (by rw [← he.out]; exact hbq.out)
 have hen2 : Hid (u = R ∨ ds ≤ e) := Lib.hid (by rw [← he.out]; exact hen.out)
 clear hbq hen
 go_upto_region 6 with (first
  | (go_at_call 14; (with_reducible refine (RCheckRatio_any hM HM2.out hSs hTs hSTf I3.out.fz HP2.out).mono ?_); rintro en w4 ⟨rfl, hb4⟩; have I4 := Lib.hid (I3.out.callB hb4); clear hb4)
  | (go_at_call 9; (with_reducible refine (sound_any hM HM2.out I2.out.fz HP2.out S2.out hLl hLr).mono ?_); rintro en w3 ⟨rfl, hb3⟩; have I3 := Lib.hid (I2.out.callB hb3); obtain ⟨y0, y1, y2, y3, y4⟩ := hbx.out φ2 w3 φ2.le_refl I3.out.fz; clear hb3)
  | fail)
 clear x0 x1 x2 x3 x4 y0 y1 y2 y3 y4 I2 I3
 go_wp2
 go_loopw [57] (fun iv wr => ∃ (i : Nat) (φ3 : Phi), i ≤ nm ∧ iv = .int .i64 (i : Int) ∧ Hid (φ2.le φ3) ∧ Hid (Inv w.heap.size w φ φ3 wr)) (fun iv _ => nm - (intOf iv).toNat)
 case atStart => exact ⟨0, φ2, Nat.zero_le _, rfl, Lib.hid φ2.le_refl, I4⟩
 case round =>
  clear I4
  obtain ⟨i, φ3, hi, rfl, hle, hS⟩ := hrel
  by_cases hil : i < nm
  ·have hili : (i : Int) < (nm : Int) := by omega
   obtain ⟨bm, om, hbm, fm⟩ := HM2'.out.mgnsD hnm hil
   obtain ⟨ar, cr, sr, f1⟩ := fm i hil
   obtain ⟨d0, d1⟩ := f1 wr (hS.out.fz.sub hle.out)
   obtain ⟨nt, hnt9⟩ : ∃ x, Hid ((mm.getD i mgn0).2.length = x) := ⟨_, Lib.hid rfl⟩
   rw [hnt9.out] at d1
   have hcli := Lib.hid (fun c x => hcl.out i c nt x hil hnt9.out)
   have hTi := Lib.hid (hT.out i hil)
   have halli := Lib.hid (fun c => hall.out i c hil)
   obtain ⟨T', hTT⟩ : ∃ T, (mm.getD i mgn0).2 = T := ⟨_, rfl⟩
   rw [hTT] at hnt9 hTi sr halli
   rw [hnt9.out] at halli
   generalize (mm.getD i mgn0).1 = nk at *
   cases hbm
   obtain ⟨φp, lp, ip, ep⟩ := (Inv.start hS.out.fz).frz (.cells #[.string nk, .slice ar nt cr] 30)
   have hS1 := Lib.hid (hS.out.call ip)
   have LP := Lib.hid (hle.out.trans lp)
   have EP := Lib.hid ep
   have SR := Lib.hid (sr.mono LP.out)
   clear fm f1 hTT ip ep lp hS hle sr
   go_upto_region 9 with fail
   generalize wr.alloc (.cells #[.string nk, .slice ar nt cr] 30) = wz at *
   generalize wr.heap.size = b10 at *
   clear d0 d1
   have x1 : wz.cell? ⟨b10, 1, none⟩ = some (.slice ar nt cr) := box_cell EP.out φp.le_refl hS1.out.fz 1
   go_wp2
   go_loopw [65] (fun iv wr => ∃ (c : Nat) (φ4 : Phi), c ≤ nt ∧ iv = .int .i64 (c : Int) ∧ Hid (φp.le φ4) ∧ Hid (Inv w.heap.size w φ φ4 wr)) (fun iv _ => nt - (intOf iv).toNat)
   case atStart => exact ⟨0, φp, Nat.zero_le _, rfl, Lib.hid φp.le_refl, hS1⟩
   case round =>
    clear hS1 x1
    obtain ⟨c, φ4, hc, rfl, hle, hS⟩ := hrel
    by_cases hlt : c < nt
    ·have hlti : (c : Int) < (nt : Int) := by omega
     obtain ⟨bt, ot, rfl, ft⟩ := SR.out.rtisD hnt9 hlt
     obtain ⟨e0, e1⟩ := ft c hlt wr (hS.out.fz.sub hle.out)
     have hmm : T'.getD c rti0 ∈ T' := by rw [getD_elem0 _ _ _ (by rw [hnt9.out]; exact hlt)]; exact List.getElem_mem _
     have hg2 := hTi.out _ hmm
     have htq : ttQ T' c = ratX (T'.getD c rti0).1 (T'.getD c rti0).2 := rfl
     have hac := halli.out c hlt
     generalize T'.getD c rti0 = pp at *
     obtain ⟨s3, t3⟩ := pp
     dsimp only at e0 e1 hg2 htq
     have hrf3 := Lib.hid (ratF_ok (shoF_ok hg2).1)
     have hbd3 : Hid (dV (bodyB s3).data.toList ≤ N ∧ dV t3.data.toList ≤ N) := Lib.hid (by rw [hN.out]; exact sho_lt hg2)
     obtain ⟨tk, htk⟩ : ∃ x, ttQ T' c = x := ⟨_, rfl⟩
     rw [htk] at htq hac
     have hxt : Hid (ratX s3 t3 = tk) := Lib.hid htq.symm
     obtain ⟨sk, hsk⟩ : ∃ x, celQ (fun j => ws.getD j 0) l i (c : Int) m = x := ⟨_, rfl⟩
     rw [hsk] at hac
     obtain ⟨hnt40', hcj, hc40, hcx⟩ := hcli.out c sk hlt hsk
     have hqc := Lib.hid (cmpQ_lit hac)
     obtain ⟨φq, lq, iq, eq⟩ := (Inv.start hS.out.fz).frz (.cells #[.string s3, .string t3] 32)
     have hS1 := Lib.hid (hS.out.call iq)
     have LQ := Lib.hid (hle.out.trans lq)
     have L2Q := Lib.hid (LP.out.trans LQ.out)
     have EQ := Lib.hid eq
     have hi8 : i ≤ 8 := by omega
     clear ft hmm hg2 htq htk hsk hac iq eq lq hS hle
     go_upto_region 12 with fail
     generalize wr.alloc (.cells #[.string s3, .string t3] 32) = wz at *
     generalize wr.heap.size = b12 at *
     clear e0 e1
     have NB0 : Hid (OpN 36 w φ φq none #[.bool false, .slice none 0 0, .slice none 0 0] wz) := Lib.hid ⟨hS1.out, fun x hx => by cases hx⟩
     have NBd := OpN.dr NB0
     have NBa := OpN.dr (OpN.al NB0)
     have LR := Lib.hid φq.le_refl
     have hcf := Lib.hid (fun (ψ : Phi) (W : World) (hl : Hid (φq.le ψ)) (hf : Fz ψ W) => (⟨(hbx.out ψ W (L2Q.out.trans hl.out) hf).1, box_cell EQ.out hl.out hf 0, box_cell EQ.out hl.out hf 1⟩ : W.cell? ⟨b7, 0, none⟩ = some (.slice a1 m c1) ∧ W.cell? ⟨b12, 0, none⟩ = some (.string s3) ∧ W.cell? ⟨b12, 1, none⟩ = some (.string t3)))
     obtain ⟨x0, x1, x2⟩ := hcf.out φq wz.drew LR NBd.out.inv.fz
     obtain ⟨y0, y1, y2⟩ := hcf.out φq wz LR NB0.out.inv.fz
     have hfn := Lib.hid (fun (ψ : Phi) (x : Nat) (W : World) (hl : Hid (φq.le ψ)) (h : Hid (OpN 36 w φ ψ (some x) #[.bool false, .slice none 0 0, .slice none 0 0] W)) (u0 u1 u2 : Value) => hcf.out ψ _ hl (OpN.put h u0 u1 u2).inv.fz)
     apply wp_region_cutV (fun (i' : Nat × Value × Value × Bool × Option Addr × Nat × Nat × Option Addr × Nat × Nat) => [(70, .slice a m cap), (71, .pointer (some ⟨b7, 0, none⟩)), (72, .slice a1 m c1), (73, .int .i64 (i : Int)), (74, .int .i64 (c : Int)), (75, i'.2.1), (76, .agg #[.string s3, .string t3]), (77, i'.2.2.1), (78, .agg #[.bool i'.2.2.2.1, .slice i'.2.2.2.2.1 i'.2.2.2.2.2.1 i'.2.2.2.2.2.2.1, .slice i'.2.2.2.2.2.2.2.1 i'.2.2.2.2.2.2.2.2.1 i'.2.2.2.2.2.2.2.2.2]), (13, .pointer (some ⟨i'.1, 0, none⟩))])
      (fun i' W => Hid (∃ φ3, φq.le φ3 ∧ OpN 36 w φ φ3 (some i'.1) #[.bool i'.2.2.2.1, .slice i'.2.2.2.2.1 i'.2.2.2.2.2.1 i'.2.2.2.2.2.2.1, .slice i'.2.2.2.2.2.2.2.1 i'.2.2.2.2.2.2.2.2.1 i'.2.2.2.2.2.2.2.2.2] W ∧ FrX φ3 (.agg #[.bool i'.2.2.2.1, .slice i'.2.2.2.2.1 i'.2.2.2.2.2.1 i'.2.2.2.2.2.2.1, .slice i'.2.2.2.2.2.2.2.1 i'.2.2.2.2.2.2.2.2.1 i'.2.2.2.2.2.2.2.2.2]) (sk - tk) ND DD))
     case h1 =>
      intro KK hKK
      have hce := Lib.hid (fun (q : Option Nat) (φw : Phi) (W : World) (hl : Hid (φ2.le φw)) (hSs : Hid (OpN 36 w φ φw q #[.bool false, .slice none 0 0, .slice none 0 0] W)) => cell_P (OpN.sta 36 w φ q #[.bool false, .slice none 0 0, .slice none 0 0]) hRD hM hB1 hM1 hl HS2 hn S2 hLl hn3 hi8 hnt40' hcj hLk hLb hv hc40 hcx hSs)
      rw [HNB.out, HDB.out] at hce
      go_region_held3 (fun w' => w'.cell? ⟨b7, 0, none⟩ = some (.slice a1 m c1) ∧ w'.cell? ⟨b12, 0, none⟩ = some (.string s3) ∧ w'.cell? ⟨b12, 1, none⟩ = some (.string t3)) (first | with_reducible exact ⟨x0, x1, x2⟩ | with_reducible exact ⟨by assumption, by assumption, by assumption⟩ | with_reducible exact ⟨keepAP (by with_reducible assumption), keepAP (by with_reducible assumption), keepAP (by with_reducible assumption)⟩ | with_reducible exact ⟨keepDr (keepAP (by with_reducible assumption)), keepDr (keepAP (by with_reducible assumption)), keepDr (keepAP (by with_reducible assumption))⟩ | with_reducible exact hfn.out _ _ _ (Lib.hid (LA.out.trans (LB.out.trans LC.out))) SC _ _ _ | fail) (first
       | ((first | (with_reducible refine (RMinus_P (OpN.sta _ _ _ _ _) hRD hM VA LB VB HBM' HMR SB).mono ?_) | (with_reducible refine (RMinus_P (OpN.sta _ _ _ _ _) hRD hM VA LB VB HBM' HMR (OpN.al SB)).mono ?_)); rintro en wC ⟨gC, aC, kC, cC, aC', kC', cC', φC, rfl, SC, LC, VC⟩; (try (have vv := OpN.fa SC; obtain ⟨v20, v21, v22, v23, v24, v25⟩ := vv)); obtain ⟨q0, q1, q2⟩ := hcf.out φC wC (Lib.hid (LA.out.trans (LB.out.trans LC.out))) SC.out.inv.fz)
       | ((first | (with_reducible refine (RFracOf_P (OpN.sta _ _ _ _ _) hrf3 hxt hbd3 SA).mono ?_) | (with_reducible refine (RFracOf_P (OpN.sta _ _ _ _ _) hrf3 hxt hbd3 (OpN.al SA)).mono ?_)); rintro en wB ⟨gB, aB, kB, cB, aB', kB', cB', φB, rfl, SB, LB, VB⟩; (try (have vv := OpN.fa SB; obtain ⟨v10, v11, v12, v13, v14, v15⟩ := vv)); obtain ⟨p0, p1, p2⟩ := hcf.out φB wB (Lib.hid (LA.out.trans LB.out)) SB.out.inv.fz)
       | ((first | (with_reducible refine (hce.out _ _ _ L2Q NBd).mono ?_) | (with_reducible refine (hce.out _ _ _ L2Q NBa).mono ?_)); rintro en wA ⟨gA, aA, kA, cA, aA', kA', cA', φA, rfl, SA, LA, VA⟩; (try (have vv := OpN.fa SA; obtain ⟨v00, v01, v02, v03, v04, v05⟩ := vv)); obtain ⟨o0, o1, o2⟩ := hcf.out φA wA LA SA.out.inv.fz)
       | fail)
      all_goals
       refine onlyN_mk ?_
       have hk9 := fun x W s => hKK.out (x, .agg #[.bool gA, .slice aA kA cA, .slice aA' kA' cA'], .agg #[.bool gB, .slice aB kB cB, .slice aB' kB' cB'], gC, aC, kC, cC, aC', kC', cC') W s
       simp only [updA, List.foldl_cons, List.foldl_nil, List.setIfInBounds_toArray, List.set_cons_succ, List.set_cons_zero] at hk9
       refine hk9 _ _ (Lib.hid ⟨φC, LA.out.trans (LB.out.trans LC.out), ?_, VC.out⟩)
       first
        | with_reducible exact OpN.mk1 SC.out.inv _
        | with_reducible exact OpN.put SC _ _ _
     case h2 =>
      rintro ⟨bd, vA, vB, gD, aD, kD, cD, aD', kD', cD'⟩ W9 hF9
      simp only [updA, List.foldl_cons, List.foldl_nil, List.setIfInBounds_toArray, List.set_cons_succ, List.set_cons_zero]
      obtain ⟨φ9, hl9, hN9, hV9⟩ := hF9.out
      have S8 := Lib.hid hN9
      have V8 := Lib.hid hV9
      have L8 := Lib.hid (L2Q.out.trans hl9)
      have LR8 := Lib.hid φ9.le_refl
      have L8p := Lib.hid (LQ.out.trans hl9)
      clear hF9 hl9 hN9 hV9 x0 x1 x2 y0 y1 y2 hcf hfn NBd NBa NB0 hS1
      obtain ⟨f0, f1, f2, f3, f4, f5⟩ := OpN.fa S8
      by_cases hneg : sk - tk < 0
      ·have hbl : Hid (decide (sk - tk < 0) = true) := Lib.hid (decide_eq_true hneg)
       have hab : abQ (sk - tk) = -(sk - tk) := by unfold abQ; rw [if_pos hneg]
       rw [hab] at hqc
       clear hneg hab
       go_upto_region 14 with (go_at_call 16; (with_reducible refine (RBelow_T (OpN.sta _ _ _ _ _) V8 LR8 hbl S8).mono ?_); rintro en w7 ⟨rfl, S7⟩)
       clear f0 f1 f2 f3 f4 f5
       obtain ⟨f0, f1, f2, f3, f4, f5⟩ := OpN.fa S7
       go_upto_region 15 with (go_at_call 17; (with_reducible refine (ROpposite_P (OpN.sta _ _ _ _ _) V8 LR8 S7).mono ?_); rintro en w6 ⟨gE, aE, kE, cE, aE', kE', cE', φE, rfl, S6, LE, VE⟩; obtain ⟨h0, h1, h2, h3, h4, h5⟩ := OpN.fa S6)
       have S5 := Lib.hid (OpN.put S6 (.bool gE) (.slice aE kE cE) (.slice aE' kE' cE'))
       have L5 := Lib.hid (L8.out.trans LE.out)
       have L5p := Lib.hid (L8p.out.trans LE.out)
       clear h0 h1 h2 h3 h4 h5 S6 S7 S8 V8
       generalize ((w6.setCell ⟨bd, 0, none⟩ (.bool gE)).setCell ⟨bd, 1, none⟩ (.slice aE kE cE)).setCell ⟨bd, 2, none⟩ (.slice aE' kE' cE') = wE at *
       go_upto_region 15 with fail
       clear f0 f1 f2 f3 f4 f5
       obtain ⟨φf, lf, if_, ef, _⟩ := (S5.out.o _ rfl).inv.frzAt (S5.out.o _ rfl).k (S5.out.o _ rfl).l
       have SF := Lib.hid if_
       have EF := Lib.hid ef
       have VF := Lib.hid (VE.out.mono lf)
       have LF := Lib.hid (L5.out.trans lf)
       have LFp := Lib.hid (L5p.out.trans lf)
       have LRf := Lib.hid φf.le_refl
       have E7f := Lib.hid (LF.out _ _ E7.out)
       clear lf if_ ef
       have SFd : Hid (Inv w.heap.size w φ φf wE.drew) := Lib.hid (SF.out.callB (bdrewN (Below.refl _ wE) 1))
       have hcf := Lib.hid (fun (ψ : Phi) (W : World) (hl : φf.le ψ) (hf : Fz ψ W) => (⟨box_cell EF.out hl hf 0, box_cell EF.out hl hf 1, box_cell EF.out hl hf 2, box_cell E7f.out hl hf 2, box_cell E7f.out hl hf 3⟩ : W.cell? ⟨bd, 0, none⟩ = some (.bool gE) ∧ W.cell? ⟨bd, 1, none⟩ = some (.slice aE kE cE) ∧ W.cell? ⟨bd, 2, none⟩ = some (.slice aE' kE' cE') ∧ W.cell? ⟨b7, 2, none⟩ = some (.string S) ∧ W.cell? ⟨b7, 3, none⟩ = some (.string T)))
       obtain ⟨x0, x1, x2, x3, x4⟩ := hcf.out φf wE.drew φf.le_refl SFd.out.fz
       obtain ⟨y0, y1, y2, y3, y4⟩ := hcf.out φf wE φf.le_refl SF.out.fz
       rcases hqc.out with hq9 | hq9
       ·have hq := Lib.hid hq9
        clear hq9
        go_region_held3 (fun w' => w'.cell? ⟨bd, 0, none⟩ = some (.bool gE) ∧ w'.cell? ⟨bd, 1, none⟩ = some (.slice aE kE cE) ∧ w'.cell? ⟨bd, 2, none⟩ = some (.slice aE' kE' cE') ∧ w'.cell? ⟨b7, 2, none⟩ = some (.string S) ∧ w'.cell? ⟨b7, 3, none⟩ = some (.string T)) (first | done | with_reducible exact ⟨x0, x1, x2, x3, x4⟩ | with_reducible exact ⟨by assumption, by assumption, by assumption, by assumption, by assumption⟩ | fail) (first
         | ((with_reducible refine (ROrder_P (Inv.sta _ _) hRD hM VF LG VG (Lib.hid φG.le_refl) HBC hq SG).mono ?_); rintro en wH ⟨φH, rfl, SH, LH⟩; obtain ⟨p0, p1, p2, p3, p4⟩ := hcf.out φH wH (LG.out.trans LH.out) SH.out.fz)
         | ((with_reducible refine (RFracOf_P (Inv.sta _ _) hST hdx hSTb SFd).mono ?_); rintro en wG ⟨gG, aG, kG, cG, aG', kG', cG', φG, rfl, SG, LG, VG⟩; obtain ⟨o0, o1, o2, o3, o4⟩ := hcf.out φG wG LG.out SG.out.fz)
         | fail)
        all_goals
         go_wp2
         go_roundw
         case rel => exact ⟨c + 1, φH, by omega, by go_num, Lib.hid (LFp.out.trans (LG.out.trans LH.out)), SH⟩
         case measure => (simp [intOf] <;> omega)
       ·have hq := Lib.hid hq9
        clear hq9
        go_region_held3 (fun w' => w'.cell? ⟨bd, 0, none⟩ = some (.bool gE) ∧ w'.cell? ⟨bd, 1, none⟩ = some (.slice aE kE cE) ∧ w'.cell? ⟨bd, 2, none⟩ = some (.slice aE' kE' cE') ∧ w'.cell? ⟨b7, 2, none⟩ = some (.string S) ∧ w'.cell? ⟨b7, 3, none⟩ = some (.string T)) (first | done | with_reducible exact ⟨x0, x1, x2, x3, x4⟩ | with_reducible exact ⟨by assumption, by assumption, by assumption, by assumption, by assumption⟩ | fail) (first
         | ((with_reducible refine (ROrder_P (Inv.sta _ _) hRD hM VF LG VG (Lib.hid φG.le_refl) HBC hq SG).mono ?_); rintro en wH ⟨φH, rfl, SH, LH⟩; obtain ⟨p0, p1, p2, p3, p4⟩ := hcf.out φH wH (LG.out.trans LH.out) SH.out.fz)
         | ((with_reducible refine (RFracOf_P (Inv.sta _ _) hST hdx hSTb SFd).mono ?_); rintro en wG ⟨gG, aG, kG, cG, aG', kG', cG', φG, rfl, SG, LG, VG⟩; obtain ⟨o0, o1, o2, o3, o4⟩ := hcf.out φG wG LG.out SG.out.fz)
         | fail)
        all_goals
         go_wp2
         go_roundw
         case rel => exact ⟨c + 1, φH, by omega, by go_num, Lib.hid (LFp.out.trans (LG.out.trans LH.out)), SH⟩
         case measure => (simp [intOf] <;> omega)
      ·have hbl : Hid (decide (sk - tk < 0) = false) := Lib.hid (decide_eq_false hneg)
       have hab : abQ (sk - tk) = sk - tk := by unfold abQ; rw [if_neg hneg]
       rw [hab] at hqc
       clear hneg hab
       go_upto_region 15 with (go_at_call 16; (with_reducible refine (RBelow_T (OpN.sta _ _ _ _ _) V8 LR8 hbl S8).mono ?_); rintro en w7 ⟨rfl, S7⟩)
       clear f0 f1 f2 f3 f4 f5
       obtain ⟨φf, lf, if_, ef, _⟩ := (S7.out.o _ rfl).inv.frzAt (S7.out.o _ rfl).k (S7.out.o _ rfl).l
       have SF := Lib.hid if_
       have EF := Lib.hid ef
       have VF := Lib.hid (V8.out.mono lf)
       have LF := Lib.hid (L8.out.trans lf)
       have LFp := Lib.hid (L8p.out.trans lf)
       have LRf := Lib.hid φf.le_refl
       have E7f := Lib.hid (LF.out _ _ E7.out)
       clear lf if_ ef
       have SFd : Hid (Inv w.heap.size w φ φf w7.drew) := Lib.hid (SF.out.callB (bdrewN (Below.refl _ w7) 1))
       have hcf := Lib.hid (fun (ψ : Phi) (W : World) (hl : φf.le ψ) (hf : Fz ψ W) => (⟨box_cell EF.out hl hf 0, box_cell EF.out hl hf 1, box_cell EF.out hl hf 2, box_cell E7f.out hl hf 2, box_cell E7f.out hl hf 3⟩ : W.cell? ⟨bd, 0, none⟩ = some (.bool gD) ∧ W.cell? ⟨bd, 1, none⟩ = some (.slice aD kD cD) ∧ W.cell? ⟨bd, 2, none⟩ = some (.slice aD' kD' cD') ∧ W.cell? ⟨b7, 2, none⟩ = some (.string S) ∧ W.cell? ⟨b7, 3, none⟩ = some (.string T)))
       obtain ⟨x0, x1, x2, x3, x4⟩ := hcf.out φf w7.drew φf.le_refl SFd.out.fz
       obtain ⟨y0, y1, y2, y3, y4⟩ := hcf.out φf w7 φf.le_refl SF.out.fz
       rcases hqc.out with hq9 | hq9
       ·have hq := Lib.hid hq9
        clear hq9
        go_region_held3 (fun w' => w'.cell? ⟨bd, 0, none⟩ = some (.bool gD) ∧ w'.cell? ⟨bd, 1, none⟩ = some (.slice aD kD cD) ∧ w'.cell? ⟨bd, 2, none⟩ = some (.slice aD' kD' cD') ∧ w'.cell? ⟨b7, 2, none⟩ = some (.string S) ∧ w'.cell? ⟨b7, 3, none⟩ = some (.string T)) (first | done | with_reducible exact ⟨x0, x1, x2, x3, x4⟩ | with_reducible exact ⟨by assumption, by assumption, by assumption, by assumption, by assumption⟩ | fail) (first
         | ((with_reducible refine (ROrder_P (Inv.sta _ _) hRD hM VF LG VG (Lib.hid φG.le_refl) HBC hq SG).mono ?_); rintro en wH ⟨φH, rfl, SH, LH⟩; obtain ⟨p0, p1, p2, p3, p4⟩ := hcf.out φH wH (LG.out.trans LH.out) SH.out.fz)
         | ((with_reducible refine (RFracOf_P (Inv.sta _ _) hST hdx hSTb SFd).mono ?_); rintro en wG ⟨gG, aG, kG, cG, aG', kG', cG', φG, rfl, SG, LG, VG⟩; obtain ⟨o0, o1, o2, o3, o4⟩ := hcf.out φG wG LG.out SG.out.fz)
         | fail)
        all_goals
         go_wp2
         go_roundw
         case rel => exact ⟨c + 1, φH, by omega, by go_num, Lib.hid (LFp.out.trans (LG.out.trans LH.out)), SH⟩
         case measure => (simp [intOf] <;> omega)
       ·have hq := Lib.hid hq9
        clear hq9
        go_region_held3 (fun w' => w'.cell? ⟨bd, 0, none⟩ = some (.bool gD) ∧ w'.cell? ⟨bd, 1, none⟩ = some (.slice aD kD cD) ∧ w'.cell? ⟨bd, 2, none⟩ = some (.slice aD' kD' cD') ∧ w'.cell? ⟨b7, 2, none⟩ = some (.string S) ∧ w'.cell? ⟨b7, 3, none⟩ = some (.string T)) (first | done | with_reducible exact ⟨x0, x1, x2, x3, x4⟩ | with_reducible exact ⟨by assumption, by assumption, by assumption, by assumption, by assumption⟩ | fail) (first
         | ((with_reducible refine (ROrder_P (Inv.sta _ _) hRD hM VF LG VG (Lib.hid φG.le_refl) HBC hq SG).mono ?_); rintro en wH ⟨φH, rfl, SH, LH⟩; obtain ⟨p0, p1, p2, p3, p4⟩ := hcf.out φH wH (LG.out.trans LH.out) SH.out.fz)
         | ((with_reducible refine (RFracOf_P (Inv.sta _ _) hST hdx hSTb SFd).mono ?_); rintro en wG ⟨gG, aG, kG, cG, aG', kG', cG', φG, rfl, SG, LG, VG⟩; obtain ⟨o0, o1, o2, o3, o4⟩ := hcf.out φG wG LG.out SG.out.fz)
         | fail)
        all_goals
         go_wp2
         go_roundw
         case rel => exact ⟨c + 1, φH, by omega, by go_num, Lib.hid (LFp.out.trans (LG.out.trans LH.out)), SH⟩
         case measure => (simp [intOf] <;> omega)
    ·obtain rfl : c = nt := by omega
     go_wp2
     go_roundw
     case rel => exact ⟨i + 1, φ4, by omega, by go_num, Lib.hid (LP.out.trans hle.out), hS⟩
     case measure => (simp [intOf] <;> omega)
  ·have hin : nm = i := by omega
   subst hin
   go_upto_region 19 with fail
   have SEd : Hid (Inv w.heap.size w φ φ3 wr.drew) := Lib.hid (hS.out.callB (bdrewN (Below.refl _ wr) 1))
   have EB3 := Lib.hid (hle.out _ _ EB2.out)
   have hcf := Lib.hid (fun (ψ : Phi) (W : World) (hl : φ3.le ψ) (hf : Fz ψ W) => (⟨(hbx.out ψ W (hle.out.trans hl) hf).2.1, (hbx.out ψ W (hle.out.trans hl) hf).2.2.1, (hbx.out ψ W (hle.out.trans hl) hf).2.2.2.1, (hbx.out ψ W (hle.out.trans hl) hf).2.2.2.2, box_cell EB3.out hl hf 1, box_cell EB3.out hl hf 2, box_cell EB3.out hl hf 3⟩ : W.cell? ⟨b7, 1, none⟩ = some (.int .i64 (u : Int)) ∧ W.cell? ⟨b7, 2, none⟩ = some (.string S) ∧ W.cell? ⟨b7, 3, none⟩ = some (.string T) ∧ W.cell? ⟨b7, 4, none⟩ = some (.bool b) ∧ W.cell? ⟨br, 1, none⟩ = some (.int .i64 (R : Int)) ∧ W.cell? ⟨br, 2, none⟩ = some (.string s) ∧ W.cell? ⟨br, 3, none⟩ = some (.string t)))
   obtain ⟨x0, x1, x2, x3, x4, x5, x6⟩ := hcf.out φ3 wr.drew φ3.le_refl SEd.out.fz
   obtain ⟨y0, y1, y2, y3, y4, y5, y6⟩ := hcf.out φ3 wr φ3.le_refl hS.out.fz
   by_cases hde : ds ≤ e
   ·have hbt : b = true := hbq2.out.trans (decide_eq_true hde)
    subst hbt
    rcases cmpQ_lit hde with hq9 | hq9
    ·have hq3 := Lib.hid hq9
     clear hq9 hde
     apply wp_region_held_drew (S := fun w' => w'.cell? ⟨b7, 1, none⟩ = some (.int .i64 (u : Int)) ∧ w'.cell? ⟨b7, 2, none⟩ = some (.string S) ∧ w'.cell? ⟨b7, 3, none⟩ = some (.string T) ∧ w'.cell? ⟨b7, 4, none⟩ = some (.bool true) ∧ w'.cell? ⟨br, 1, none⟩ = some (.int .i64 (R : Int)) ∧ w'.cell? ⟨br, 2, none⟩ = some (.string s) ∧ w'.cell? ⟨br, 3, none⟩ = some (.string t))
     case hm => kernel_rfl
     case hS => exact ⟨x0, x1, x2, x3, x4, x5, x6⟩
     case h =>
     intro hHeld
     refine' wpAnyH_take (i := 0) ?hi (by kernel_rfl) (by kernel_rfl) (by kernel_rfl) ?hQ (Or.inl ⟨?hw, ?hy⟩) (by assumption) ?rest
     case hi => exact List.getElem?_toArray.trans rfl
     case hQ => exact fun _ _ _ h => h
     case hw => rfl
     case hy => ((intro w hSw; (try dsimp only at hSw); go_simp) <;> with_reducible rfl)
     case rest =>
     try simp only [Act.put, List.setIfInBounds_toArray, List.set_cons_zero, List.set_cons_succ]
     refine' wpAnyH_take (i := 1) ?hi (by kernel_rfl) (by kernel_rfl) (by kernel_rfl) ?hQ (Or.inl ⟨?hw, ?hy⟩) (by assumption) ?rest
     case hi => exact List.getElem?_toArray.trans rfl
     case hQ => exact fun _ _ _ h => h
     case hw => rfl
     case hy => ((intro w hSw; (try dsimp only at hSw); go_simp) <;> with_reducible rfl)
     case rest =>
     try simp only [Act.put, List.setIfInBounds_toArray, List.set_cons_zero, List.set_cons_succ]
     refine' wpAnyH_take (i := 2) ?hi (by kernel_rfl) (by kernel_rfl) (by kernel_rfl) ?hQ (Or.inl ⟨?hw, ?hy⟩) (by assumption) ?rest
     case hi => exact List.getElem?_toArray.trans rfl
     case hQ => exact fun _ _ _ h => h
     case hw => rfl
     case hy => ((intro w hSw; (try dsimp only at hSw); go_simp) <;> with_reducible rfl)
     case rest =>
     try simp only [Act.put, List.setIfInBounds_toArray, List.set_cons_zero, List.set_cons_succ]
     refine' wpAnyH_take (i := 3) ?hi (by kernel_rfl) (by kernel_rfl) (by kernel_rfl) ?hQ (Or.inl ⟨?hw, ?hy⟩) (by assumption) ?rest
     case hi => exact List.getElem?_toArray.trans rfl
     case hQ => exact fun _ _ _ h => h
     case hw => rfl
     case hy => ((intro w hSw; (try dsimp only at hSw); go_simp) <;> with_reducible rfl)
     case rest =>
     try simp only [Act.put, List.setIfInBounds_toArray, List.set_cons_zero, List.set_cons_succ]
     refine' wpAnyH_take (i := 5) ?hi (by kernel_rfl) (by kernel_rfl) (by kernel_rfl) ?hQ (Or.inl ⟨?hw, ?hy⟩) (by assumption) ?rest
     case hi => exact List.getElem?_toArray.trans rfl
     case hQ => exact fun _ _ _ h => h
     case hw => rfl
     case hy => ((intro w hSw; (try dsimp only at hSw); go_simp) <;> with_reducible rfl)
     case rest =>
     try simp only [Act.put, List.setIfInBounds_toArray, List.set_cons_zero, List.set_cons_succ]
     refine' wpAnyH_take (i := 6) ?hi (by kernel_rfl) (by kernel_rfl) (by kernel_rfl) ?hQ (Or.inl ⟨?hw, ?hy⟩) (by assumption) ?rest
     case hi => exact List.getElem?_toArray.trans rfl
     case hQ => exact fun _ _ _ h => h
     case hw => rfl
     case hy => ((intro w hSw; (try dsimp only at hSw); go_simp) <;> with_reducible rfl)
     case rest =>
     try simp only [Act.put, List.setIfInBounds_toArray, List.set_cons_zero, List.set_cons_succ]
     refine wpAnyH_ready (rs := [4]) (by kernel_rfl) (by simp) ?_
     refine' AllReadyH.cons ?ho (fun K hK => ?st) AllReadyH.nil
     case ho => exact List.getElem?_toArray.trans rfl
     case st =>
     go_simp
     go_at_call 12
     (with_reducible refine (RFracOf_P (Inv.sta _ _) hST hdx hSTb SEd).mono ?_)
     rintro en wA ⟨gA, aA, kA, cA, aA', kA', cA', φA, rfl, SA, LA, VA⟩
     have hsA := hcf.out φA wA LA.out SA.out.fz
     dsimp only
     refine hK.out _ _ ?hSS (fun hHeld => ?hRR)
     case hSS => exact hsA
     case hRR =>
     clear hK K
     try simp only [Act.put, List.setIfInBounds_toArray, List.set_cons_zero, List.set_cons_succ]
     refine wpAnyH_ready (rs := [7]) (by kernel_rfl) (by simp) ?_
     refine' AllReadyH.cons ?ho (fun K hK => ?st) AllReadyH.nil
     case ho => exact List.getElem?_toArray.trans rfl
     case st =>
     go_simp
     go_at_call 12
     (with_reducible refine (RFracOf_P (Inv.sta _ _) hrf he hbd SA).mono ?_)
     rintro en wB ⟨gB, aB, kB, cB, aB', kB', cB', φB, rfl, SB, LB, VB⟩
     have hsB := hcf.out φB wB (LA.out.trans LB.out) SB.out.fz
     dsimp only
     refine hK.out _ _ ?hSS (fun hHeld => ?hRR)
     case hSS => exact hsB
     case hRR =>
     clear hK K
     try simp only [Act.put, List.setIfInBounds_toArray, List.set_cons_zero, List.set_cons_succ]
     refine wpAnyH_ready (rs := [8]) (by kernel_rfl) (by simp) ?_
     refine' AllReadyH.cons ?ho (fun K hK => ?st) AllReadyH.nil
     case ho => exact List.getElem?_toArray.trans rfl
     case st =>
     go_simp
     go_at_call 11
     (with_reducible refine (ROrder_P (Inv.sta _ _) hRD hM VA LB VB (Lib.hid φB.le_refl) HBQ hq3 SB).mono ?_)
     rintro en wC ⟨φC, rfl, SC, LC⟩
     have hsC := hcf.out φC wC (LA.out.trans (LB.out.trans LC.out)) SC.out.fz
     dsimp only
     refine hK.out _ _ ?hSS (fun hHeld => ?hRR)
     case hSS => exact hsC
     case hRR =>
     clear hK K
     try simp only [Act.put, List.setIfInBounds_toArray, List.set_cons_zero, List.set_cons_succ]
     refine' wpAnyH_take (i := 9) ?hi (by kernel_rfl) (by kernel_rfl) (by kernel_rfl) ?hQ (Or.inl ⟨?hw, ?hy⟩) (by assumption) ?rest
     case hi => exact List.getElem?_toArray.trans rfl
     case hQ => exact fun _ _ _ h => h
     case hw => rfl
     case hy => ((intro w hSw; (try dsimp only at hSw); go_simp) <;> with_reducible rfl)
     case rest =>
     try simp only [Act.put, List.setIfInBounds_toArray, List.set_cons_zero, List.set_cons_succ]
     refine' wpAnyH_take (i := 10) ?hi (by kernel_rfl) (by kernel_rfl) (by kernel_rfl) ?hQ (Or.inl ⟨?hw, ?hy⟩) (by assumption) ?rest
     case hi => exact List.getElem?_toArray.trans rfl
     case hQ => exact fun _ _ _ h => h
     case hw => rfl
     case hy => ((intro w hSw; (try dsimp only at hSw); go_simp) <;> with_reducible rfl)
     case rest =>
     try simp only [Act.put, List.setIfInBounds_toArray, List.set_cons_zero, List.set_cons_succ]
     refine' wpAnyH_take (i := 11) ?hi (by kernel_rfl) (by kernel_rfl) (by kernel_rfl) ?hQ (Or.inl ⟨?hw, ?hy⟩) (by assumption) ?rest
     case hi => exact List.getElem?_toArray.trans rfl
     case hQ => exact fun _ _ _ h => h
     case hw => rfl
     case hy => ((intro w hSw; (try dsimp only at hSw); go_simp) <;> with_reducible rfl)
     case rest =>
     try simp only [Act.put, List.setIfInBounds_toArray, List.set_cons_zero, List.set_cons_succ]
     refine' wpAnyH_take (i := 12) ?hi (by kernel_rfl) (by kernel_rfl) (by kernel_rfl) ?hQ (Or.inl ⟨?hw, ?hy⟩) (by assumption) ?rest
     case hi => exact List.getElem?_toArray.trans rfl
     case hQ => exact fun _ _ _ h => h
     case hw => rfl
     case hy => ((intro w hSw; (try dsimp only at hSw); go_simp) <;> with_reducible rfl)
     case rest =>
     try simp only [Act.put, List.setIfInBounds_toArray, List.set_cons_zero, List.set_cons_succ]
     refine' wpAnyH_take (i := 13) ?hi (by kernel_rfl) (by kernel_rfl) (by kernel_rfl) ?hQ (Or.inl ⟨?hw, ?hy⟩) (by assumption) ?rest
     case hi => exact List.getElem?_toArray.trans rfl
     case hQ => exact fun _ _ _ h => h
     case hw => rfl
     case hy => ((intro w hSw; (try dsimp only at hSw); go_simp) <;> with_reducible rfl)
     case rest =>
     try simp only [Act.put, List.setIfInBounds_toArray, List.set_cons_zero, List.set_cons_succ]
     refine' wpAnyH_take (i := 14) ?hi (by kernel_rfl) (by kernel_rfl) (by kernel_rfl) ?hQ (Or.inl ⟨?hw, ?hy⟩) (by assumption) ?rest
     case hi => exact List.getElem?_toArray.trans rfl
     case hQ => exact fun _ _ _ h => h
     case hw => rfl
     case hy => ((intro w hSw; (try dsimp only at hSw); go_simp) <;> with_reducible rfl)
     case rest =>
     try simp only [Act.put, List.setIfInBounds_toArray, List.set_cons_zero, List.set_cons_succ]
     refine' wpAnyH_take (i := 15) (v := undef) ?hi (by kernel_rfl) (by kernel_rfl) (by kernel_rfl) ?hQ (Or.inr ⟨?hw, rfl⟩) (by assumption) ?rest
     case hi => exact List.getElem?_toArray.trans rfl
     case hQ => exact fun _ _ _ h => h
     case hw => rfl
     case rest =>
     try simp only [Act.put, List.setIfInBounds_toArray, List.set_cons_zero, List.set_cons_succ]
     refine' wpAnyH_take (i := 16) (v := undef) ?hi (by kernel_rfl) (by kernel_rfl) (by kernel_rfl) ?hQ (Or.inr ⟨?hw, rfl⟩) (by assumption) ?rest
     case hi => exact List.getElem?_toArray.trans rfl
     case hQ => exact fun _ _ _ h => h
     case hw => rfl
     case rest =>
     try simp only [Act.put, List.setIfInBounds_toArray, List.set_cons_zero, List.set_cons_succ]
     refine' wpAnyH_take (i := 17) (v := undef) ?hi (by kernel_rfl) (by kernel_rfl) (by kernel_rfl) ?hQ (Or.inr ⟨?hw, rfl⟩) (by assumption) ?rest
     case hi => exact List.getElem?_toArray.trans rfl
     case hQ => exact fun _ _ _ h => h
     case hw => rfl
     case rest =>
     try simp only [Act.put, List.setIfInBounds_toArray, List.set_cons_zero, List.set_cons_succ]
     refine' wpAnyH_take (i := 18) (v := undef) ?hi (by kernel_rfl) (by kernel_rfl) (by kernel_rfl) ?hQ (Or.inr ⟨?hw, rfl⟩) (by assumption) ?rest
     case hi => exact List.getElem?_toArray.trans rfl
     case hQ => exact fun _ _ _ h => h
     case hw => rfl
     case rest =>
     try simp only [Act.put, List.setIfInBounds_toArray, List.set_cons_zero, List.set_cons_succ]
     refine' wpAnyH_take (i := 19) (v := undef) ?hi (by kernel_rfl) (by kernel_rfl) (by kernel_rfl) ?hQ (Or.inr ⟨?hw, rfl⟩) (by assumption) ?rest
     case hi => exact List.getElem?_toArray.trans rfl
     case hQ => exact fun _ _ _ h => h
     case hw => rfl
     case rest =>
     try simp only [Act.put, List.setIfInBounds_toArray, List.set_cons_zero, List.set_cons_succ]
     refine' wpAnyH_take (i := 20) ?hi (by kernel_rfl) (by kernel_rfl) (by kernel_rfl) ?hQ (Or.inl ⟨?hw, ?hy⟩) (by assumption) ?rest
     case hi => exact List.getElem?_toArray.trans rfl
     case hQ => exact fun _ _ _ h => h
     case hw => rfl
     case hy => ((intro w hSw; (try dsimp only at hSw); go_simp) <;> with_reducible rfl)
     case rest =>
     try simp only [Act.put, List.setIfInBounds_toArray, List.set_cons_zero, List.set_cons_succ]
     refine' wpAnyH_take (i := 21) ?hi (by kernel_rfl) (by kernel_rfl) (by kernel_rfl) ?hQ (Or.inl ⟨?hw, ?hy⟩) (by assumption) ?rest
     case hi => exact List.getElem?_toArray.trans rfl
     case hQ => exact fun _ _ _ h => h
     case hw => rfl
     case hy => ((intro w hSw; (try dsimp only at hSw); go_simp) <;> with_reducible rfl)
     case rest =>
     try simp only [Act.put, List.setIfInBounds_toArray, List.set_cons_zero, List.set_cons_succ]
     refine wpAnyH_ready (rs := [22]) (by kernel_rfl) (by simp) ?_
     refine' AllReadyH.cons ?ho (fun K hK => ?st) AllReadyH.nil
     case ho => exact List.getElem?_toArray.trans rfl
     case st =>
     go_simp
     refine hK.out _ _ ?hSS (fun hHeld => ?hRR)
     case hSS => exact hsC
     case hRR =>
     clear hK K
     try simp only [Act.put, List.setIfInBounds_toArray, List.set_cons_zero, List.set_cons_succ]
     refine wpAnyH_done (by kernel_rfl) ?_ _
     go_wp2
     go_ret
     exact ⟨rfl, HBR.out ▸ SC.out.bel⟩
    ·have hq3 := Lib.hid hq9
     clear hq9 hde
     apply wp_region_held_drew (S := fun w' => w'.cell? ⟨b7, 1, none⟩ = some (.int .i64 (u : Int)) ∧ w'.cell? ⟨b7, 2, none⟩ = some (.string S) ∧ w'.cell? ⟨b7, 3, none⟩ = some (.string T) ∧ w'.cell? ⟨b7, 4, none⟩ = some (.bool true) ∧ w'.cell? ⟨br, 1, none⟩ = some (.int .i64 (R : Int)) ∧ w'.cell? ⟨br, 2, none⟩ = some (.string s) ∧ w'.cell? ⟨br, 3, none⟩ = some (.string t))
     case hm => kernel_rfl
     case hS => exact ⟨x0, x1, x2, x3, x4, x5, x6⟩
     case h =>
     intro hHeld
     refine' wpAnyH_take (i := 0) ?hi (by kernel_rfl) (by kernel_rfl) (by kernel_rfl) ?hQ (Or.inl ⟨?hw, ?hy⟩) (by assumption) ?rest
     case hi => exact List.getElem?_toArray.trans rfl
     case hQ => exact fun _ _ _ h => h
     case hw => rfl
     case hy => ((intro w hSw; (try dsimp only at hSw); go_simp) <;> with_reducible rfl)
     case rest =>
     try simp only [Act.put, List.setIfInBounds_toArray, List.set_cons_zero, List.set_cons_succ]
     refine' wpAnyH_take (i := 1) ?hi (by kernel_rfl) (by kernel_rfl) (by kernel_rfl) ?hQ (Or.inl ⟨?hw, ?hy⟩) (by assumption) ?rest
     case hi => exact List.getElem?_toArray.trans rfl
     case hQ => exact fun _ _ _ h => h
     case hw => rfl
     case hy => ((intro w hSw; (try dsimp only at hSw); go_simp) <;> with_reducible rfl)
     case rest =>
     try simp only [Act.put, List.setIfInBounds_toArray, List.set_cons_zero, List.set_cons_succ]
     refine' wpAnyH_take (i := 2) ?hi (by kernel_rfl) (by kernel_rfl) (by kernel_rfl) ?hQ (Or.inl ⟨?hw, ?hy⟩) (by assumption) ?rest
     case hi => exact List.getElem?_toArray.trans rfl
     case hQ => exact fun _ _ _ h => h
     case hw => rfl
     case hy => ((intro w hSw; (try dsimp only at hSw); go_simp) <;> with_reducible rfl)
     case rest =>
     try simp only [Act.put, List.setIfInBounds_toArray, List.set_cons_zero, List.set_cons_succ]
     refine' wpAnyH_take (i := 3) ?hi (by kernel_rfl) (by kernel_rfl) (by kernel_rfl) ?hQ (Or.inl ⟨?hw, ?hy⟩) (by assumption) ?rest
     case hi => exact List.getElem?_toArray.trans rfl
     case hQ => exact fun _ _ _ h => h
     case hw => rfl
     case hy => ((intro w hSw; (try dsimp only at hSw); go_simp) <;> with_reducible rfl)
     case rest =>
     try simp only [Act.put, List.setIfInBounds_toArray, List.set_cons_zero, List.set_cons_succ]
     refine' wpAnyH_take (i := 5) ?hi (by kernel_rfl) (by kernel_rfl) (by kernel_rfl) ?hQ (Or.inl ⟨?hw, ?hy⟩) (by assumption) ?rest
     case hi => exact List.getElem?_toArray.trans rfl
     case hQ => exact fun _ _ _ h => h
     case hw => rfl
     case hy => ((intro w hSw; (try dsimp only at hSw); go_simp) <;> with_reducible rfl)
     case rest =>
     try simp only [Act.put, List.setIfInBounds_toArray, List.set_cons_zero, List.set_cons_succ]
     refine' wpAnyH_take (i := 6) ?hi (by kernel_rfl) (by kernel_rfl) (by kernel_rfl) ?hQ (Or.inl ⟨?hw, ?hy⟩) (by assumption) ?rest
     case hi => exact List.getElem?_toArray.trans rfl
     case hQ => exact fun _ _ _ h => h
     case hw => rfl
     case hy => ((intro w hSw; (try dsimp only at hSw); go_simp) <;> with_reducible rfl)
     case rest =>
     try simp only [Act.put, List.setIfInBounds_toArray, List.set_cons_zero, List.set_cons_succ]
     refine wpAnyH_ready (rs := [4]) (by kernel_rfl) (by simp) ?_
     refine' AllReadyH.cons ?ho (fun K hK => ?st) AllReadyH.nil
     case ho => exact List.getElem?_toArray.trans rfl
     case st =>
     go_simp
     go_at_call 12
     (with_reducible refine (RFracOf_P (Inv.sta _ _) hST hdx hSTb SEd).mono ?_)
     rintro en wA ⟨gA, aA, kA, cA, aA', kA', cA', φA, rfl, SA, LA, VA⟩
     have hsA := hcf.out φA wA LA.out SA.out.fz
     dsimp only
     refine hK.out _ _ ?hSS (fun hHeld => ?hRR)
     case hSS => exact hsA
     case hRR =>
     clear hK K
     try simp only [Act.put, List.setIfInBounds_toArray, List.set_cons_zero, List.set_cons_succ]
     refine wpAnyH_ready (rs := [7]) (by kernel_rfl) (by simp) ?_
     refine' AllReadyH.cons ?ho (fun K hK => ?st) AllReadyH.nil
     case ho => exact List.getElem?_toArray.trans rfl
     case st =>
     go_simp
     go_at_call 12
     (with_reducible refine (RFracOf_P (Inv.sta _ _) hrf he hbd SA).mono ?_)
     rintro en wB ⟨gB, aB, kB, cB, aB', kB', cB', φB, rfl, SB, LB, VB⟩
     have hsB := hcf.out φB wB (LA.out.trans LB.out) SB.out.fz
     dsimp only
     refine hK.out _ _ ?hSS (fun hHeld => ?hRR)
     case hSS => exact hsB
     case hRR =>
     clear hK K
     try simp only [Act.put, List.setIfInBounds_toArray, List.set_cons_zero, List.set_cons_succ]
     refine wpAnyH_ready (rs := [8]) (by kernel_rfl) (by simp) ?_
     refine' AllReadyH.cons ?ho (fun K hK => ?st) AllReadyH.nil
     case ho => exact List.getElem?_toArray.trans rfl
     case st =>
     go_simp
     go_at_call 11
     (with_reducible refine (ROrder_P (Inv.sta _ _) hRD hM VA LB VB (Lib.hid φB.le_refl) HBQ hq3 SB).mono ?_)
     rintro en wC ⟨φC, rfl, SC, LC⟩
     have hsC := hcf.out φC wC (LA.out.trans (LB.out.trans LC.out)) SC.out.fz
     dsimp only
     refine hK.out _ _ ?hSS (fun hHeld => ?hRR)
     case hSS => exact hsC
     case hRR =>
     clear hK K
     try simp only [Act.put, List.setIfInBounds_toArray, List.set_cons_zero, List.set_cons_succ]
     refine' wpAnyH_take (i := 9) ?hi (by kernel_rfl) (by kernel_rfl) (by kernel_rfl) ?hQ (Or.inl ⟨?hw, ?hy⟩) (by assumption) ?rest
     case hi => exact List.getElem?_toArray.trans rfl
     case hQ => exact fun _ _ _ h => h
     case hw => rfl
     case hy => ((intro w hSw; (try dsimp only at hSw); go_simp) <;> with_reducible rfl)
     case rest =>
     try simp only [Act.put, List.setIfInBounds_toArray, List.set_cons_zero, List.set_cons_succ]
     refine' wpAnyH_take (i := 10) ?hi (by kernel_rfl) (by kernel_rfl) (by kernel_rfl) ?hQ (Or.inl ⟨?hw, ?hy⟩) (by assumption) ?rest
     case hi => exact List.getElem?_toArray.trans rfl
     case hQ => exact fun _ _ _ h => h
     case hw => rfl
     case hy => ((intro w hSw; (try dsimp only at hSw); go_simp) <;> with_reducible rfl)
     case rest =>
     try simp only [Act.put, List.setIfInBounds_toArray, List.set_cons_zero, List.set_cons_succ]
     refine' wpAnyH_take (i := 11) ?hi (by kernel_rfl) (by kernel_rfl) (by kernel_rfl) ?hQ (Or.inl ⟨?hw, ?hy⟩) (by assumption) ?rest
     case hi => exact List.getElem?_toArray.trans rfl
     case hQ => exact fun _ _ _ h => h
     case hw => rfl
     case hy => ((intro w hSw; (try dsimp only at hSw); go_simp) <;> with_reducible rfl)
     case rest =>
     try simp only [Act.put, List.setIfInBounds_toArray, List.set_cons_zero, List.set_cons_succ]
     refine' wpAnyH_take (i := 12) ?hi (by kernel_rfl) (by kernel_rfl) (by kernel_rfl) ?hQ (Or.inl ⟨?hw, ?hy⟩) (by assumption) ?rest
     case hi => exact List.getElem?_toArray.trans rfl
     case hQ => exact fun _ _ _ h => h
     case hw => rfl
     case hy => ((intro w hSw; (try dsimp only at hSw); go_simp) <;> with_reducible rfl)
     case rest =>
     try simp only [Act.put, List.setIfInBounds_toArray, List.set_cons_zero, List.set_cons_succ]
     refine' wpAnyH_take (i := 13) ?hi (by kernel_rfl) (by kernel_rfl) (by kernel_rfl) ?hQ (Or.inl ⟨?hw, ?hy⟩) (by assumption) ?rest
     case hi => exact List.getElem?_toArray.trans rfl
     case hQ => exact fun _ _ _ h => h
     case hw => rfl
     case hy => ((intro w hSw; (try dsimp only at hSw); go_simp) <;> with_reducible rfl)
     case rest =>
     try simp only [Act.put, List.setIfInBounds_toArray, List.set_cons_zero, List.set_cons_succ]
     refine' wpAnyH_take (i := 14) ?hi (by kernel_rfl) (by kernel_rfl) (by kernel_rfl) ?hQ (Or.inl ⟨?hw, ?hy⟩) (by assumption) ?rest
     case hi => exact List.getElem?_toArray.trans rfl
     case hQ => exact fun _ _ _ h => h
     case hw => rfl
     case hy => ((intro w hSw; (try dsimp only at hSw); go_simp) <;> with_reducible rfl)
     case rest =>
     try simp only [Act.put, List.setIfInBounds_toArray, List.set_cons_zero, List.set_cons_succ]
     refine' wpAnyH_take (i := 15) (v := undef) ?hi (by kernel_rfl) (by kernel_rfl) (by kernel_rfl) ?hQ (Or.inr ⟨?hw, rfl⟩) (by assumption) ?rest
     case hi => exact List.getElem?_toArray.trans rfl
     case hQ => exact fun _ _ _ h => h
     case hw => rfl
     case rest =>
     try simp only [Act.put, List.setIfInBounds_toArray, List.set_cons_zero, List.set_cons_succ]
     refine' wpAnyH_take (i := 16) (v := undef) ?hi (by kernel_rfl) (by kernel_rfl) (by kernel_rfl) ?hQ (Or.inr ⟨?hw, rfl⟩) (by assumption) ?rest
     case hi => exact List.getElem?_toArray.trans rfl
     case hQ => exact fun _ _ _ h => h
     case hw => rfl
     case rest =>
     try simp only [Act.put, List.setIfInBounds_toArray, List.set_cons_zero, List.set_cons_succ]
     refine' wpAnyH_take (i := 17) (v := undef) ?hi (by kernel_rfl) (by kernel_rfl) (by kernel_rfl) ?hQ (Or.inr ⟨?hw, rfl⟩) (by assumption) ?rest
     case hi => exact List.getElem?_toArray.trans rfl
     case hQ => exact fun _ _ _ h => h
     case hw => rfl
     case rest =>
     try simp only [Act.put, List.setIfInBounds_toArray, List.set_cons_zero, List.set_cons_succ]
     refine' wpAnyH_take (i := 18) (v := undef) ?hi (by kernel_rfl) (by kernel_rfl) (by kernel_rfl) ?hQ (Or.inr ⟨?hw, rfl⟩) (by assumption) ?rest
     case hi => exact List.getElem?_toArray.trans rfl
     case hQ => exact fun _ _ _ h => h
     case hw => rfl
     case rest =>
     try simp only [Act.put, List.setIfInBounds_toArray, List.set_cons_zero, List.set_cons_succ]
     refine' wpAnyH_take (i := 19) (v := undef) ?hi (by kernel_rfl) (by kernel_rfl) (by kernel_rfl) ?hQ (Or.inr ⟨?hw, rfl⟩) (by assumption) ?rest
     case hi => exact List.getElem?_toArray.trans rfl
     case hQ => exact fun _ _ _ h => h
     case hw => rfl
     case rest =>
     try simp only [Act.put, List.setIfInBounds_toArray, List.set_cons_zero, List.set_cons_succ]
     refine' wpAnyH_take (i := 20) ?hi (by kernel_rfl) (by kernel_rfl) (by kernel_rfl) ?hQ (Or.inl ⟨?hw, ?hy⟩) (by assumption) ?rest
     case hi => exact List.getElem?_toArray.trans rfl
     case hQ => exact fun _ _ _ h => h
     case hw => rfl
     case hy => ((intro w hSw; (try dsimp only at hSw); go_simp) <;> with_reducible rfl)
     case rest =>
     try simp only [Act.put, List.setIfInBounds_toArray, List.set_cons_zero, List.set_cons_succ]
     refine' wpAnyH_take (i := 21) ?hi (by kernel_rfl) (by kernel_rfl) (by kernel_rfl) ?hQ (Or.inl ⟨?hw, ?hy⟩) (by assumption) ?rest
     case hi => exact List.getElem?_toArray.trans rfl
     case hQ => exact fun _ _ _ h => h
     case hw => rfl
     case hy => ((intro w hSw; (try dsimp only at hSw); go_simp) <;> with_reducible rfl)
     case rest =>
     try simp only [Act.put, List.setIfInBounds_toArray, List.set_cons_zero, List.set_cons_succ]
     refine wpAnyH_ready (rs := [22]) (by kernel_rfl) (by simp) ?_
     refine' AllReadyH.cons ?ho (fun K hK => ?st) AllReadyH.nil
     case ho => exact List.getElem?_toArray.trans rfl
     case st =>
     go_simp
     refine hK.out _ _ ?hSS (fun hHeld => ?hRR)
     case hSS => exact hsC
     case hRR =>
     clear hK K
     try simp only [Act.put, List.setIfInBounds_toArray, List.set_cons_zero, List.set_cons_succ]
     refine wpAnyH_done (by kernel_rfl) ?_ _
     go_wp2
     go_ret
     exact ⟨rfl, HBR.out ▸ SC.out.bel⟩
   ·have hbt : b = false := hbq2.out.trans (decide_eq_false hde)
    subst hbt
    have huR : u = R := by
     rcases hen2.out with q | q
     ·exact q
     ·exact absurd q hde
    subst huR
    have hq3 : Hid (cmpQ ds e = 1) := Lib.hid (by
     unfold cmpQ
     rw [if_neg (fun h => hde (Rat.le_of_lt h)), if_neg (fun h => hde (by rw [h]; exact Rat.le_refl))])
    have huu : ((u : Int) == (u : Int)) = true := by simp
    clear hde
    go_region_held3 (fun w' => w'.cell? ⟨b7, 1, none⟩ = some (.int .i64 (u : Int)) ∧ w'.cell? ⟨b7, 2, none⟩ = some (.string S) ∧ w'.cell? ⟨b7, 3, none⟩ = some (.string T) ∧ w'.cell? ⟨b7, 4, none⟩ = some (.bool false) ∧ w'.cell? ⟨br, 1, none⟩ = some (.int .i64 (u : Int)) ∧ w'.cell? ⟨br, 2, none⟩ = some (.string s) ∧ w'.cell? ⟨br, 3, none⟩ = some (.string t)) (first | done | with_reducible exact ⟨x0, x1, x2, x3, x4, x5, x6⟩ | with_reducible exact ⟨by assumption, by assumption, by assumption, by assumption, by assumption, by assumption, by assumption⟩ | fail) (first
     | ((with_reducible refine (ROrder_P (Inv.sta _ _) hRD hM VA LB VB (Lib.hid φB.le_refl) HBQ hq3 SB).mono ?_); rintro en wC ⟨φC, rfl, SC, LC⟩; obtain ⟨p0, p1, p2, p3, p4, p5, p6⟩ := hcf.out φC wC (LA.out.trans (LB.out.trans LC.out)) SC.out.fz)
     | ((with_reducible refine (RFracOf_P (Inv.sta _ _) hrf he hbd SA).mono ?_); rintro en wB ⟨gB, aB, kB, cB, aB', kB', cB', φB, rfl, SB, LB, VB⟩; obtain ⟨o0, o1, o2, o3, o4, o5, o6⟩ := hcf.out φB wB (LA.out.trans LB.out) SB.out.fz)
     | ((with_reducible refine (RFracOf_P (Inv.sta _ _) hST hdx hSTb SEd).mono ?_); rintro en wA ⟨gA, aA, kA, cA, aA', kA', cA', φA, rfl, SA, LA, VA⟩; obtain ⟨n0, n1, n2, n3, n4, n5, n6⟩ := hcf.out φA wA LA.out SA.out.fz)
     | fail)
    all_goals
     go_wp2
     go_ret
     exact ⟨rfl, HBR.out ▸ SC.out.bel⟩
theorem weightRakingTellsItsDistance_walk (w : World) (φ : Phi) (hφ : Fz φ w) (hp : PowP φ) (am : Option Addr) (cm : Nat) (ms : List Mgn) (sm : SlV φ am cm ms) (gm : ms.length * Tryz.prog.bytesOf 30 ≤ reachBytes ∧ ∀ x ∈ ms, GMgn x) (a : Option Addr) (cap : Nat) (xs : List Psn) (s : SlV φ a cap xs) (g : xs.length * Tryz.prog.bytesOf 76 ≤ reachBytes ∧ ∀ x ∈ xs, GPsnR x) (cs : Array Value) (x : Int × Int × Rti) (hx : Rep.rep φ x cs.toList) (gx : IsI64 x.1 ∧ IsI64 x.2.1 ∧ (StrG x.2.2.1 ∧ StrG x.2.2.2)) :
  Calls Tryz.prog 4 #[.slice am ms.length cm, .slice a xs.length cap, .agg cs] w fun e w' => e = .returned (.bool true) ∧ Below w.heap.size w w' := by
 obtain ⟨c, d, hcd, hc, c2, d2, hcd2, hc2, c3, d3, hcd3, hc3, hd3⟩ := hx
 have e : cs = #[.int .i64 x.1, .int .i64 x.2.1, .string x.2.2.1, .string x.2.2.2] := by
  apply Array.toList_inj.1
  rw [hcd, hc, hcd2, hc2, hcd3, hc3, hd3]; rfl
 rw [e]
 have hM := lenB_p (j := 12000010) (k := 1333335) (by decide) (by decide)
 have g1 := gx.2.2.1
 have g2 := gx.2.2.2
 unfold StrG reachBytes at g1 g2
 exact tells_core hM (Lib.hid (div_any hM)) (Lib.hid (Rdiv_any hM)) (p10_leP (by decide)) (Lib.hid rfl) (Lib.hid (fun h => rkB_pT (Lib.hid rfl) (by decide) h)) (Lib.hid rfl) (Lib.hid (fun h => tlB_p (m := 3000) (Lib.hid rfl) h (by decide) (by decide))) (by omega) (by omega) hφ hp sm (Lib.hid rfl) (Lib.hid (mgnG_of gm.2)) s (Lib.hid rfl) (Lib.hid (psnG_ofR g.2))
theorem rRkgT (H : Type) (enc : TypeId × Value → H) (W : World) : Reads enc Tryz.prog W 42 (Int × Int × Rti) (fun x => IsI64 x.1 ∧ IsI64 x.2.1 ∧ (StrG x.2.2.1 ∧ StrG x.2.2.2)) :=
 Reads.struct3 (s1 := 1) (s2 := 1) (s3 := 2) Tryz.underlying42 (by kernel_rfl) (by kernel_rfl) (by kernel_rfl) (by kernel_rfl) (by kernel_rfl) (by kernel_rfl) (by kernel_rfl) (rInt H enc W) (rInt H enc W) (rRti H enc W)
end Go.Proofs.YtmlpjffnmkndoaaGreatDoor
namespace Go.Proofs.YtmlpjffnmkndoaaGreatDoor.weightRakingTellsItsDistance
open Go.ChangeShapes Go.WideShapes Go.ChangeAt Go.RowKit
set_option linter.unusedVariables false
theorem own : ownKnob Tryz.prog.godebug = none := by kernel_rfl
theorem laidOut : laidOutB Tryz.prog = true := by kernel_rfl
theorem datum2 : (Rows.laid_internal_strconv_uint64pow10 : DataW Unit) = Lib.tabData .u64 Lib.pow10Tab := by kernel_rfl
theorem fact2 {W : World} (h0 : laidMetH Tryz.prog Rows.weightRakingTellsItsDistanceRow.laid W) : PowP (Phi.all W) := by
 rw [MakeChecks.laidMetH_plain _ _ _ (by kernel_rfl)] at h0
 have h : laidMet Tryz.prog [("math/bits.deBruijn32tab", Rows.laid_math_bits_deBruijn32tab), ("math/bits.deBruijn64tab", Rows.laid_math_bits_deBruijn64tab), ("internal/strconv.uint64pow10", Rows.laid_internal_strconv_uint64pow10), ("unicode/utf8.acceptRanges", Rows.laid_unicode_utf8_acceptRanges), ("strconv.ErrRange", Rows.laid_strconv_ErrRange), ("strconv.ErrSyntax", Rows.laid_strconv_ErrSyntax), ("unicode/utf8.first", Rows.laid_unicode_utf8_first)] W := h0
 have h1 : laidMet Tryz.prog [("internal/strconv.uint64pow10", Rows.laid_internal_strconv_uint64pow10), ("unicode/utf8.acceptRanges", Rows.laid_unicode_utf8_acceptRanges), ("strconv.ErrRange", Rows.laid_strconv_ErrRange), ("strconv.ErrSyntax", Rows.laid_strconv_ErrSyntax), ("unicode/utf8.first", Rows.laid_unicode_utf8_first)] W := h.tail.tail
 rw [datum2] at h1
 have hg : Tryz.prog.globalNamed "internal/strconv.uint64pow10" = some 4 := by kernel_rfl
 have ht := Lib.tabIs_of_head (t := 220) (e := 122) hg (by kernel_rfl) Tryz.underlying220 Tryz.underlying122 (by kernel_rfl) (by kernel_rfl) h1
 exact PowP.of_tab ht
set_option maxRecDepth 100000 in
theorem lifted (os : Os) (started : os.Started) (H : Type) (enc : TypeId × Value → H) :
    ReturnsInHanded {} Tryz.checked os 4 .any (fun w args => (Rows.weightRakingTellsItsDistanceSpec.pre enc Tryz.prog Tryz.f4 [] false w args ∧ laidMetH Tryz.prog Rows.weightRakingTellsItsDistanceRow.laid w) ∧ sizedMet enc Tryz.prog Tryz.f4 (OpenSpec.ofChange Rows.weightRakingTellsItsDistanceSpec) false w args) (Rows.weightRakingTellsItsDistanceSpec.post enc Tryz.prog Tryz.f4 false true false false) := by
  refine returnsInHanded_of_change_and (C := Tryz.checked) (X := fun w _ => laidMetH Tryz.prog Rows.weightRakingTellsItsDistanceRow.laid w) (fun _ _ _ hh h => h.of_heap hh) own started (by kernel_rfl) Tryz.func4
    (ChangeSpec.witness_shaped (enc := enc) (C := Tryz.checked) (os := os) (X := fun w _ => laidMetH Tryz.prog Rows.weightRakingTellsItsDistanceRow.laid w) false (World.laidAll Tryz.prog os Rows.weightRakingTellsItsDistanceRow.laid) #[.slice none 0 0, .slice none 0 0, .agg #[.int .i64 0, .int .i64 0, .string ⟨#[]⟩, .string ⟨#[]⟩]] 8 (World.laidAll_os _ _ _) (World.shaped_of_ZipB (by kernel_rfl) (by kernel_rfl)) (by kernel_rfl) (by kernel_rfl) (by kernel_rfl) (by rw [MakeChecks.laidMetH_plain _ _ _ (by kernel_rfl)]; exact laidMet_laidAll _ (by kernel_rfl) (by kernel_rfl))) ?_
  intro W base args ds gs before hval0 hW hcnd hsz0 hL _
  have hsz : (DataW.weightsEach Tryz.prog (Tryz.f4.params.toList ++ Rows.weightRakingTellsItsDistanceSpec.plain.varTypes Tryz.prog) (ds ++ gs)).all (· ≤ reachBytes) = true := hsz0
  have hval : ∀ (j : Nat) t v, Tryz.f4.params[j]? = some t → args[j]? = some v → Value.okWide Tryz.prog W .any base t v := hval0
  have hW' := hW
  obtain ⟨p, q, hA0, hV, rfl, hfz, hnd⟩ := hW
  have hA : DataW.TrodAll enc Tryz.prog W 0 (fun _ => true) true Tryz.f4.params.toList args.toList ds p := hA0
  rw [Tryz.params4] at hA hval hsz
  obtain ⟨v0, vs0, d0, ds0, p0, q0, hargs, rfl, rfl, h0, r0⟩ := trodAll_cons hA
  obtain ⟨v1, vs1, d1, ds1, p1, q1, rfl, rfl, rfl, h1, r1⟩ := trodAll_cons r0
  obtain ⟨v2, vs2, d2, ds2, p2, q2, rfl, rfl, rfl, h2, r2⟩ := trodAll_cons r1
  obtain ⟨rfl, rfl, rfl⟩ := trodAll_nil r2
  obtain rfl : args = #[v0, v1, v2] := by cases args; simp_all
  obtain ⟨rfl, rfl⟩ := trodVars_none hV
  have k0 := h0
  have lt0 : ∀ x ∈ p0, x.block < W.heap.size := by obtain ⟨m, hm⟩ := k0; exact DataW.trod_lt m _ _ _ hm
  have wt0 : ∀ n ∈ d0.weights Tryz.prog 22, n ≤ reachBytes := fun n hn => by simpa using List.all_eq_true.1 hsz _ (DataW.weights_mem_each (j := 0) rfl rfl n hn)
  obtain ⟨fu0, hf0⟩ := h0
  obtain ⟨x0, rr0, g0⟩ := rMgns H enc W _ _ _ _ _ _ _ hf0 wt0
  obtain ⟨a0, len0, cap0, rfl⟩ := okWide_slice Tryz.underlying22 (hval 0 22 v0 rfl rfl)
  obtain ⟨b0, c0, e0, s0⟩ := rr0
  simp [Value.cells] at e0
  obtain ⟨rfl, rfl, rfl⟩ := e0
  have k1 := h1
  have lt1 : ∀ x ∈ p1, x.block < W.heap.size := by obtain ⟨m, hm⟩ := k1; exact DataW.trod_lt m _ _ _ hm
  have wt1 : ∀ n ∈ d1.weights Tryz.prog 23, n ≤ reachBytes := fun n hn => by simpa using List.all_eq_true.1 hsz _ (DataW.weights_mem_each (j := 1) rfl rfl n hn)
  obtain ⟨fu1, hf1⟩ := h1
  obtain ⟨x1, rr1, g1⟩ := rPsnsR H enc W _ _ _ _ _ _ _ hf1 wt1
  obtain ⟨a1, len1, cap1, rfl⟩ := okWide_slice Tryz.underlying23 (hval 1 23 v1 rfl rfl)
  obtain ⟨b1, c1, e1, s1⟩ := rr1
  simp [Value.cells] at e1
  obtain ⟨rfl, rfl, rfl⟩ := e1
  have k2 := h2
  have lt2 : ∀ x ∈ p2, x.block < W.heap.size := by obtain ⟨m, hm⟩ := k2; exact DataW.trod_lt m _ _ _ hm
  have wt2 : ∀ n ∈ d2.weights Tryz.prog 42, n ≤ reachBytes := fun n hn => by simpa using List.all_eq_true.1 hsz _ (DataW.weights_mem_each (j := 2) rfl rfl n hn)
  obtain ⟨fu2, hf2⟩ := h2
  obtain ⟨x2, rr2, g2⟩ := rRkgT H enc W _ _ _ _ _ _ _ hf2 wt2
  obtain ⟨cs2, ec2, _⟩ := okWide_struct Tryz.underlying42 (hval 2 42 v2 rfl rfl)
  subst ec2
  clear hA0 hval0
  refine (weightRakingTellsItsDistance_walk W (Phi.all W) (Fz.all W) (fact2 hL) a0 cap0 x0 s0 g0 a1 cap1 x1 s1 g1 cs2 x2 (by simpa [Value.cells] using rr2) g2).mono fun e W' ⟨he, bel⟩ => ?_
  subst he
  exact ⟨_, rfl, _, _, _, [], _, [], hW', trodAll_mk1 (shut_bool Tryz.underlying4 _), (trodAll_cons_mk (Below.trod laidOut (by kernel_rfl) (of_decide_eq_true (by kernel_rfl)) k0 bel lt0) (trodAll_cons_mk (Below.trod laidOut (by kernel_rfl) (of_decide_eq_true (by kernel_rfl)) k1 bel lt1) (trodAll_cons_mk (Below.trod laidOut (by kernel_rfl) (of_decide_eq_true (by kernel_rfl)) k2 bel lt2) trodAll_mk0))), rfl, bel.frame _, fun h => by cases h⟩
theorem over : Rows.weightRakingTellsItsDistanceRow.holds Tryz.pinned (OpenSpec.ofChange Rows.weightRakingTellsItsDistanceSpec) :=
 OpenClaim.holds_of_wide 4 Tryz.f4 rfl rfl rfl rfl rfl rfl rfl ⟨rfl, rfl, rfl, rfl, rfl⟩ rfl rfl rfl rfl rfl (by kernel_rfl) Tryz.func4 (by kernel_rfl)
  (of_decide_eq_true (by kernel_rfl)) (by unfold Func.isWrapper; first | (rw [if_pos (by decide +kernel)]; kernel_rfl) | (rw [if_neg (by decide +kernel)]; exact ⟨rfl, rfl⟩))
  (fun os started H enc _ => lifted os started H enc)
theorem proved : Rows.WeightRakingTellsItsDistanceCardSaid :=
 Claim7.holds_tied_plain_at .later [] [.data, .data, .data, .data, .sentinel, .sentinel, .pinned] true (true, "d1eac1021dd9d73c573404824b7a9ff269e0e59d5fe7685d7411960c626fab04") true
  over (fun _ h => by cases h) (by kernel_rfl) (fun _ h => by cases h) weightRakingTellsItsDistance_row_tie rfl ⟨rfl, rfl⟩ (by kernel_rfl) rfl
  (fun f fn hf hfn => by
   obtain rfl : f = 4 := Option.some.inj ((show Tryz.prog.funcNamed "canvass/canvasslaw9.WeightRakingTellsItsDistance" = some 4 by kernel_rfl).symm.trans hf) |>.symm
   obtain rfl : fn = Tryz.f4 := (Option.some.inj (Tryz.func4.symm.trans hfn)).symm
   exact ⟨by kernel_rfl, fun j t ht => by
    rw [Tryz.params4] at ht
    have hm : t ∈ [22, 23, 42] := by simpa using Array.mem_of_getElem? ht
    have hall : ([22, 23, 42].all fun u => !Tryz.prog.wantsStandIn u) = true := by kernel_rfl
    exact (show Tryz.prog.wantsStandIn t = false by simpa using List.all_eq_true.1 hall t hm)⟩)
  (by kernel_rfl)
end Go.Proofs.YtmlpjffnmkndoaaGreatDoor.weightRakingTellsItsDistance
