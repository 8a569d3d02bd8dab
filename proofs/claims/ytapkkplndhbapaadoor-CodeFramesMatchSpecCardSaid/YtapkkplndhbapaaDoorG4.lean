/- The walks of the program's write and Text. Conditions: the library's table of powers of ten reads as it was laid. -/
import Derived.Test.YtapkkplndhbapaaDoorG3
namespace Go.Proofs.YtapkkplndhbapaaDoor
open Go.RowKit
set_option linter.unusedVariables false
section
variable {w0 W w' : World} {φ ψ : Phi} {bb bd : Nat} {t : ByteArray} {ds : Array Value} {E : TypeId}
theorem wstr_S {s : ByteArray} (hE : E ≠ 5) (hsz : Hid (t.size + s.size ≤ 140737488355328)) (h : ReS w0 φ ψ bb t bd ds E W) :
    Calls Tryd.prog 45 #[.pointer (some ⟨bb, 0, none⟩), .string s] W (fun e w' => e = .returned (.tuple #[.int .i64 s.size, .nilIface]) ∧ Hid (ReS w0 φ φ bb (t ++ s) bd ds E w')) := by
  refine (WriteString_any h.tx hsz.out).mono ?_
  rintro e w' ⟨rfl, h1, h2⟩
  exact ⟨rfl, Lib.hid (h.wrote hE h1 h2)⟩
theorem Repeat_S {k : Nat} (hk : k ≤ 1000) {s : ByteArray} (hs : Hid (indB k = s)) (h : ReS w0 φ ψ bb t bd ds E W) :
    Calls Tryd.prog 46 #[.string ⟨#[32, 32]⟩, .int .i64 k] W (fun e w' => e = .returned (.string s) ∧ Hid (ReS w0 φ ψ bb t bd ds E w')) := by
  refine (Any.strings_Repeat Tryd.lays105 Tryd.Builder_Extra_105 ⟨#[32, 32]⟩ k W (by omega) (by show 2 * k ≤ _; omega)).mono ?_
  rintro e w' ⟨rfl, hb⟩
  exact ⟨by rw [← hs.out]; rfl, Lib.hid (h.callB hb)⟩
theorem Itoa_S {n : Int} (h0 : 1 ≤ n) (h1 : n ≤ 999) (hp : PowP ψ) {s : ByteArray} (hs : Hid (itoaB n = s)) (h : ReS w0 φ ψ bb t bd ds E W) :
    Calls Tryd.prog 47 #[.int .i64 n] W (fun e w' => e = .returned (.string s) ∧ Hid (ReS w0 φ ψ bb t bd ds E w')) := by
  refine (Itoa_any n (by omega) (by omega) W ψ h.fz hp).mono ?_
  rintro e w' ⟨rfl, hb⟩
  exact ⟨by rw [hs.out], Lib.hid (h.callB hb)⟩
end
/-- What write does, to a depth. -/
def WrC (l : List Nod) (w0 : World) (φ : Phi) (bb bt : Nat) (d : Nat) : Prop :=
  ∀ (p : Int) (lev : Nat) (w : World) (t : ByteArray), lev + d = 9 → (p = 0 ∨ (ix l p).isSome = true) → lvl l p = lev → TxSt w0 φ bb t w → t.size + (txD l d p lev).size ≤ 1000000 →
    Calls Tryd.prog 21 #[.pointer (some ⟨bt, 0, none⟩), .pointer (some ⟨bb, 0, none⟩), .int .i64 p] w (fun e w' => e = .returned (.tuple #[]) ∧ TxSt w0 φ bb (t ++ txD l d p lev) w')
set_option maxRecDepth 100000 in
set_option maxHeartbeats 2000000 in
theorem write_step {w0 : World} {φ : Phi} {bb bt : Nat} {a : Option Addr} {c n m1 m2 : Nat} {l : List Nod} (s : SlV φ a c l) (HP : Hid (PowP φ)) (HT : Hid (TrOk l n)) (HTW : Hid (TreeW w0 bt a c n m1 m2 (atF l) (lvF l))) (d : Nat) (IH : Hid (WrC l w0 φ bb bt d)) : WrC l w0 φ bb bt (d + 1) := by
  intro p lev w t hd hp hlv hT hsz
  have hn : Hid (l.length = n) := Lib.hid HT.out.len
  have hn6 : n ≤ 600 := HT.out.pos.2
  have hT0 := Lib.hid hT
  have hTW0 := HTW.out.callB hT.inv.bel
  have e0 : w.cell? ⟨bt, 0, none⟩ = some (.slice a n c) := hTW0.blk.cell 0
  have HPX := Lib.hid hp
  have HLV := Lib.hid hlv
  have hlev8 : lev ≤ 8 := by omega
  rw [txD, HT.out.len] at hsz
  have HSZ := Lib.hid hsz
  have hTS : Hid (TxSt w0 φ bb (t ++ txK l (fun c => txD l d c (lev + 1)) p lev 0) w) := Lib.hid (by
    rw [show txK l (fun c => txD l d c (lev + 1)) p lev 0 = ByteArray.empty from rfl, ByteArray.append_empty]; exact hT0.out)
  have hgl : Hid (t ++ txD l (d + 1) p lev = t ++ txK l (fun c => txD l d c (lev + 1)) p lev n) := Lib.hid (by rw [txD, HT.out.len])
  clear hTW0 hT hp hlv hsz
  go_enter Tryd.func21, Tryd.ntmps21
  go_wp2
  clear e0
  go_loopw [13] (fun i wr => ∃ k : Nat, k ≤ n ∧ i = .int .i64 k ∧ Hid (TxSt w0 φ bb (t ++ txK l (fun c => txD l d c (lev + 1)) p lev k) wr)) (fun i _ => n - (intOf i).toNat)
  case atStart => exact ⟨0, Nat.zero_le _, rfl, hTS⟩
  case round =>
    clear hTS
    obtain ⟨k, hk, rfl, hS⟩ := hrel
    by_cases hlt : k < n
    · obtain ⟨b, off, rfl, f⟩ := s.nodesD hn hlt
      obtain ⟨hb, c1, c2, c3⟩ := f k hlt wr hS.out.inv.fz
      have hnx : Hid (txK l (fun c => txD l d c (lev + 1)) p lev (k + 1) = if par0 l k = p then txK l (fun c => txD l d c (lev + 1)) p lev k ++ (lineB l lev k ++ txD l d (cod l k) (lev + 1)) else txK l (fun c => txD l d c (lev + 1)) p lev k) := Lib.hid rfl
      have hmo := Lib.hid (txK_mono (l := l) (fun c => txD l d c (lev + 1)) p lev (k := k + 1) (m := n) (by omega))
      have hlvn := Lib.hid (lvl_node HT.out hlt)
      have hl8 : Hid (lvl l (cod l k) ≤ 8) := Lib.hid (by have := (lvF_at HT.out (.inr hlvn.out.1)).2; exact this)
      have hrg := HT.out.rng k hlt
      have htz := (HT.out.tit k hlt).1
      have hit := itoaB_size (n := cod l k) (by omega) (by omega)
      obtain ⟨si, hsi⟩ : ∃ si, Hid (itoaB (cod l k) = si) := ⟨_, Lib.hid rfl⟩
      have hline : Hid (lineB l lev k = (((indB lev ++ itoaB (cod l k)) ++ ⟨#[32]⟩) ++ tit l k) ++ ⟨#[10]⟩) := Lib.hid rfl
      have hpar : Hid (par0 l k = (l.getD k nod0).2.1) := Lib.hid rfl
      rw [hsi.out] at hit hline
      rw [show (l.getD k nod0).1 = cod l k from rfl] at c1
      rw [show (l.getD k nod0).2.1 = par0 l k from rfl] at c2
      rw [show (l.getD k nod0).2.2 = tit l k from rfl] at c3
      generalize cod l k = m at *
      generalize par0 l k = pa at *
      generalize tit l k = ti at *
      have hSb := Lib.hid (hS.out.callB ((Below.refl _ _).alloc (Nat.le_refl _) (.cells #[.int .i64 m, .int .i64 pa, .string ti] 38)))
      have hBx := Lib.hid (Blk.new wr #[.int .i64 m, .int .i64 pa, .string ti] 38)
      have hSl := hS.out.lt
      clear f hS hb
      by_cases hpe : pa = p
      case neg =>
        have hne : ((pa : Int) == p) = false := by simp [hpe]
        have hkeep : Hid (txK l (fun c => txD l d c (lev + 1)) p lev (k + 1) = txK l (fun c => txD l d c (lev + 1)) p lev k) := Lib.hid (by rw [hnx.out, if_neg hpe])
        have HPE := Lib.hid hpe
        clear hpe
        go_wp2
        go_roundw
        case rel => exact ⟨k + 1, by omega, by go_num, by rw [hkeep.out]; exact hSb⟩
        case measure => (simp [intOf] <;> omega)
      subst hpe
      have hadd : Hid (txK l (fun c => txD l d c (lev + 1)) pa lev (k + 1) = txK l (fun c => txD l d c (lev + 1)) pa lev k ++ (lineB l lev k ++ txD l d m (lev + 1))) := Lib.hid (by rw [hnx.out, if_pos rfl])
      have hlm : Hid (lvl l m = lev + 1) := Lib.hid (by rw [hlvn.out.2.1, HLV.out])
      have hd1 : 1 ≤ d := by have := hl8.out; have := hlm.out; omega
      obtain ⟨tk, htk⟩ : ∃ tk, Hid (txK l (fun c => txD l d c (lev + 1)) pa lev k = tk) := ⟨_, Lib.hid rfl⟩
      obtain ⟨sd, hsd⟩ : ∃ sd, Hid (txD l d m (lev + 1) = sd) := ⟨_, Lib.hid rfl⟩
      obtain ⟨li, hli⟩ : ∃ li, Hid (lineB l lev k = li) := ⟨_, Lib.hid rfl⟩
      have hbd : Hid (t.size + tk.size + (li.size + sd.size) ≤ 1000000) := Lib.hid (by
        have h1 := HSZ.out
        have h2 := hmo.out
        rw [hadd.out, htk.out, hsd.out, hli.out, ByteArray.size_append, ByteArray.size_append] at h2
        omega)
      rw [htk.out] at hSb
      rw [htk.out, hsd.out, hli.out] at hadd
      have hib := indB_size lev
      obtain ⟨ib, hibe⟩ : ∃ ib, Hid (indB lev = ib) := ⟨_, Lib.hid rfl⟩
      rw [hibe.out] at hib
      have hline2 : Hid ((((ib ++ si) ++ ⟨#[32]⟩) ++ ti) ++ ⟨#[10]⟩ = li) := Lib.hid (by rw [← hibe.out, ← hline.out, hli.out])
      have hg1 : ¬ 9223372036854775807 < ib.size + si.size := by omega
      have hg2 : ¬ 9223372036854775807 < ib.size + si.size + 1 := by omega
      have hg3 : ¬ 9223372036854775807 < ib.size + si.size + 1 + ti.size := by omega
      have hg4 : ¬ 9223372036854775807 < ib.size + si.size + 1 + ti.size + 1 := by omega
      clear hib
      have HCT : Hid (∀ W, Below w0.heap.size w0 W → W.cell? ⟨bt, 2, none⟩ = some (.map (some m2)) ∧ (Instr.lookup 79 (.map (some m2)) (.int .i64 pa) false).run Tryd.prog W = .ok (.int .i64 lev) W) := Lib.hid (fun W hb => by
        have hT2 := HTW.out.callB hb
        refine ⟨hT2.blk.cell 2, ?_⟩
        have := hT2.lev.look_no pa
        rwa [(lvF_at HT.out HPX.out).1, HLV.out] at this)
      have HWS : Hid ((t ++ tk).size + ((((ib ++ si) ++ ⟨#[32]⟩) ++ ti) ++ ⟨#[10]⟩ : ByteArray).size ≤ 140737488355328) := Lib.hid (by have := hbd.out; rw [hline2.out, ByteArray.size_append]; omega)
      have hX0 : Hid (ReS w0 φ φ bb (t ++ tk) wr.heap.size #[.int .i64 m, .int .i64 pa, .string ti] 38 (wr.alloc (.cells #[.int .i64 m, .int .i64 pa, .string ti] 38)).drew) := Lib.hid ⟨hSb.out.callB (bdrewN (Below.refl _ _) 1), hBx.out, hSb.out.inv.fz, by omega⟩
      have HIH := Lib.hid (IH.out m (lev + 1))
      rw [hsd.out] at HIH
      have HMX := Lib.hid hlvn.out.1
      clear hSb hmo hnx hline hpar hlvn hsd hli HSZ
      go_wp2
      obtain ⟨bd, hbde⟩ : ∃ bd, Hid (wr.heap.size = bd) := ⟨_, Lib.hid rfl⟩
      rw [hbde.out] at hX0 ⊢
      have hX := hX0
      generalize wr.alloc (.cells #[.int .i64 m, .int .i64 pa, .string ti] 38) = wx at *
      have y0 : wx.cell? ⟨bd, 0, none⟩ = some (.int .i64 m) := hX.out.d.cell 0
      have y1 : wx.cell? ⟨bd, 2, none⟩ = some (.string ti) := hX.out.d.cell 2
      have y2 : wx.cell? ⟨bt, 2, none⟩ = some (.map (some m2)) := (HCT.out _ hX.out.tx.inv.bel).1
      have y3 := (HCT.out _ hX.out.tx.inv.bel).2
      clear hX c1 c2 c3 hBx
      go_region_held3 (fun w' => w'.cell? ⟨bd, 0, none⟩ = some (.int .i64 m) ∧ w'.cell? ⟨bd, 2, none⟩ = some (.string ti) ∧ w'.cell? ⟨bt, 2, none⟩ = some (.map (some m2)) ∧ (Instr.lookup 79 (.map (some m2)) (.int .i64 pa) false).run Tryd.prog w' = .ok (.int .i64 lev) w') (first | exact ⟨y0, y1, y2, y3⟩ | exact ⟨by assumption, by assumption, by assumption, by assumption⟩) (first
        | ((with_reducible refine (Repeat_S (k := lev) (by omega) hibe (Hid.out (by assumption))).mono ?_); rintro e w' ⟨rfl, hX⟩; have z0 : w'.cell? ⟨bd, 0, none⟩ = some (.int .i64 m) := hX.out.d.cell 0; have z1 : w'.cell? ⟨bd, 2, none⟩ = some (.string ti) := hX.out.d.cell 2; have z2 : w'.cell? ⟨bt, 2, none⟩ = some (.map (some m2)) := (HCT.out _ hX.out.tx.inv.bel).1; have z3 := (HCT.out _ hX.out.tx.inv.bel).2)
        | ((with_reducible refine (Itoa_S hrg.1 hrg.2 HP.out hsi (Hid.out (by assumption))).mono ?_); rintro e w' ⟨rfl, hX⟩; have z0 : w'.cell? ⟨bd, 0, none⟩ = some (.int .i64 m) := hX.out.d.cell 0; have z1 : w'.cell? ⟨bd, 2, none⟩ = some (.string ti) := hX.out.d.cell 2; have z2 : w'.cell? ⟨bt, 2, none⟩ = some (.map (some m2)) := (HCT.out _ hX.out.tx.inv.bel).1; have z3 := (HCT.out _ hX.out.tx.inv.bel).2)
        | ((with_reducible refine (wstr_S (E := 38) (by decide) HWS (Hid.out (by assumption))).mono ?_); rintro e w' ⟨rfl, hX⟩; have z0 : w'.cell? ⟨bd, 0, none⟩ = some (.int .i64 m) := hX.out.d.cell 0; have z1 : w'.cell? ⟨bd, 2, none⟩ = some (.string ti) := hX.out.d.cell 2; have z2 : w'.cell? ⟨bt, 2, none⟩ = some (.map (some m2)) := (HCT.out _ hX.out.tx.inv.bel).1; have z3 := (HCT.out _ hX.out.tx.inv.bel).2))
      rename World => W9
      have hX9 : Hid (ReS w0 φ φ bb ((t ++ tk) ++ ((((ib ++ si) ++ ⟨#[32]⟩) ++ ti) ++ ⟨#[10]⟩)) bd #[.int .i64 m, .int .i64 pa, .string ti] 38 W9) := by assumption
      rw [hline2.out] at hX9
      have v0 : W9.cell? ⟨bd, 0, none⟩ = some (.int .i64 m) := hX9.out.d.cell 0
      have HIC := Lib.hid (HIH.out W9 ((t ++ tk) ++ li) (by omega) (.inr HMX.out) hlm.out hX9.out.tx (by have := hbd.out; rw [ByteArray.size_append, ByteArray.size_append]; omega))
      go_wp2_with (go_at_call 21; refine HIC.out.mono ?_; rintro e w6 ⟨rfl, hT6⟩; have HT6 := Lib.hid hT6; clear hT6)
      go_roundw
      case rel =>
        refine ⟨k + 1, by omega, by go_num, ?_⟩
        rw [hadd.out, ← ByteArray.append_assoc, ← ByteArray.append_assoc]
        exact HT6
      case measure => (simp [intOf] <;> omega)
    · obtain rfl : n = k := by omega
      go_wp2
      go_end0
      exact ⟨rfl, by rw [hgl.out]; exact hS.out⟩
theorem write_any {w0 : World} {φ : Phi} {bb bt : Nat} {a : Option Addr} {c n m1 m2 : Nat} {l : List Nod} (s : SlV φ a c l) (HP : Hid (PowP φ)) (HT : Hid (TrOk l n)) (HTW : Hid (TreeW w0 bt a c n m1 m2 (atF l) (lvF l))) : ∀ d, WrC l w0 φ bb bt d
  | 0 => by
    intro p lev w t hd hp hlv
    have := (lvF_at HT.out hp).2
    omega
  | d + 1 => write_step s HP HT HTW d (Lib.hid (write_any s HP HT HTW d))
set_option maxHeartbeats 1000000 in
theorem Text_any {w : World} {a : Option Addr} {c n : Nat} {l : List Nod} {φ : Phi} (hφ : Fz φ w) (hp : PowP φ) (s : SlV φ a c l) (hn : Hid (l.length = n)) (hm : n ≤ 9223372036854775807) {t : ByteArray} {F : Int} (ht : Hid (textF l = (t, F))) :
    Calls Tryd.prog 6 #[.slice a n c] w (fun e w' => e = .returned (.tuple #[.string t, .int .i64 F]) ∧ Below w.heap.size w w') := by
  go_enter Tryd.func6, Tryd.ntmps6
  go_wp2_with fail
  refine (treeOf_any hφ s hn hm).mono ?_
  rintro e w1 ⟨hb, hcase⟩
  have HB := Lib.hid hb
  obtain ⟨q, hq⟩ : ∃ q, Hid (treeF l = q) := ⟨_, Lib.hid rfl⟩
  rcases hcase with ⟨h0, rfl⟩ | ⟨h0, hok, bt, m1, m2, rfl, ht2⟩
  · rw [hq.out] at h0 ⊢
    have hg : ((q : Int) != 0) = true := by simp [h0]
    have e : Hid (t = ⟨#[]⟩ ∧ F = q) := Lib.hid (by have := ht.out; rw [textF, hq.out, if_pos h0] at this; cases this; exact ⟨rfl, rfl⟩)
    clear h0 hb
    go_wp2
    go_ret2
    exact ⟨by rw [e.out.1, e.out.2]; rfl, HB.out⟩
  have e : Hid (t = txD l 9 0 0 ∧ F = 0) := Lib.hid (by have := ht.out; rw [textF, if_neg (by rw [h0]; simp)] at this; cases this; exact ⟨rfl, rfl⟩)
  obtain ⟨rfl, rfl⟩ := e.out
  have HO := Lib.hid hok
  have hsz := txD_le hok 9 0 0 (by omega)
  have HTW := Lib.hid ht2
  have HW := Lib.hid (write_any (w0 := w1) (bb := w1.heap.size) (s) (Lib.hid hp) HO HTW 9)
  have hS0 : Hid (TxSt w1 φ w1.heap.size ⟨#[]⟩ (w1.alloc (.cells #[.pointer none, .slice none 0 0] 52))) := Lib.hid (TxSt.start (Inv.start (hφ.below hb)))
  have HW2 := Lib.hid (HW.out 0 0 _ _ rfl (.inl rfl) (lvl_zero l) hS0.out (by show 0 + _ ≤ _; omega))
  clear h0 hb hok ht2 HW
  generalize htx : txD l 9 0 0 = tx at *
  have HTX := Lib.hid htx
  go_wp2_with fail
  refine HW2.out.mono ?_
  rintro e w2 ⟨rfl, hT2⟩
  have hT2' : TxSt w1 φ w1.heap.size tx w2 := by
    have : (⟨#[]⟩ : ByteArray) ++ tx = tx := ByteArray.empty_append
    rwa [this] at hT2
  have HT2 := Lib.hid hT2'
  clear hT2 hT2' hS0 HW2 htx
  have hsz2 : (tx.size : Int) ≤ 60000 := by omega
  go_wp2_with (first
    | (go_at_call 22; refine (Len_any HT2.out).mono ?_; rintro e w3 ⟨rfl, rfl⟩)
    | (go_at_call 23; refine (String_any HT2.out).mono ?_; rintro e w4 ⟨rfl, hT4⟩; have HT4 := Lib.hid hT4; clear hT4))
  go_ret2
  exact ⟨by rw [HTX.out]; rfl, HB.out.trans (HT4.out.inv.bel.mono HB.out.size)⟩
end Go.Proofs.YtapkkplndhbapaaDoor
