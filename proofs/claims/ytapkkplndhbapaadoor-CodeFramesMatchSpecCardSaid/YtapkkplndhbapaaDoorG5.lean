/- The walks of the reference's lines and Text. Conditions: the library's table of powers of ten reads as it was laid. -/
import Derived.Test.YtapkkplndhbapaaDoorG4
namespace Go.Proofs.YtapkkplndhbapaaDoor
open Go.RowKit
set_option linter.unusedVariables false
/-- A box that is read, and what is frozen beside. -/
structure LnS (w0 : World) (φ : Phi) (bd : Nat) (ds : Array Value) (E : TypeId) (w : World) : Prop where
  bel : Below w0.heap.size w0 w
  fz : Fz φ w
  d : Blk w bd ds E
section
variable {w0 W w' : World} {φ : Phi} {bd : Nat} {ds : Array Value} {E : TypeId}
theorem LnS.callB (h : LnS w0 φ bd ds E W) (hb : Below W.heap.size W w') : LnS w0 φ bd ds E w' := ⟨h.bel.trans (hb.mono h.bel.size), h.fz.below hb, h.d.callB hb⟩
theorem Repeat_L {k : Nat} {L : Int} (hL : Hid (L = k)) (hk : k ≤ 1000) {s : ByteArray} (hs : Hid (indB k = s)) (h : LnS w0 φ bd ds E W) :
    Calls Tryd.prog 46 #[.string ⟨#[32, 32]⟩, .int .i64 L] W (fun e w' => e = .returned (.string s) ∧ Hid (LnS w0 φ bd ds E w')) := by
  rw [hL.out]
  refine (Any.strings_Repeat Tryd.lays105 Tryd.Builder_Extra_105 ⟨#[32, 32]⟩ k W (by omega) (by show 2 * k ≤ _; omega)).mono ?_
  rintro e w' ⟨rfl, hb⟩
  exact ⟨by rw [← hs.out]; rfl, Lib.hid (h.callB hb)⟩
theorem Itoa_L {n : Int} (h0 : 1 ≤ n) (h1 : n ≤ 999) (hp : PowP φ) {s : ByteArray} (hs : Hid (itoaB n = s)) (h : LnS w0 φ bd ds E W) :
    Calls Tryd.prog 47 #[.int .i64 n] W (fun e w' => e = .returned (.string s) ∧ Hid (LnS w0 φ bd ds E w')) := by
  refine (Itoa_any n (by omega) (by omega) W φ h.fz hp).mono ?_
  rintro e w' ⟨rfl, hb⟩
  exact ⟨by rw [hs.out], Lib.hid (h.callB hb)⟩
end
/-- What lines gives, to a depth. -/
def LnC (l : List Nod) (φ : Phi) (a : Option Addr) (n c : Nat) (d : Nat) : Prop :=
  ∀ (p : Int) (lev : Nat) (L : Int) (w : World) (t : ByteArray), L = lev → lev + d = 9 → (p = 0 ∨ (ix l p).isSome = true) → lvl l p = lev → Fz φ w → txD l d p lev = t →
    Calls Tryd.prog 24 #[.slice a n c, .int .i64 p, .int .i64 L] w (fun e w' => e = .returned (.string t) ∧ Below w.heap.size w w')
theorem lines_L {w0 W : World} {φ : Phi} {bd : Nat} {ds : Array Value} {E : TypeId} {l : List Nod} {a : Option Addr} {n c d : Nat} (IH : Hid (LnC l φ a n c d)) {p : Int} {lev : Nat} {L : Int} {t : ByteArray} (h1 : Hid (L = lev)) (h2 : lev + d = 9) (h3 : Hid (p = 0 ∨ (ix l p).isSome = true)) (h4 : Hid (lvl l p = lev)) (ht : Hid (txD l d p lev = t)) (h : LnS w0 φ bd ds E W) :
    Calls Tryd.prog 24 #[.slice a n c, .int .i64 p, .int .i64 L] W (fun e w' => e = .returned (.string t) ∧ Hid (LnS w0 φ bd ds E w')) := by
  refine (IH.out p lev L W t h1.out h2 h3.out h4.out h.fz ht.out).mono ?_
  rintro e w' ⟨rfl, hb⟩
  exact ⟨rfl, Lib.hid (h.callB hb)⟩
set_option maxRecDepth 100000 in
set_option maxHeartbeats 2000000 in
theorem lines_step {φ : Phi} {a : Option Addr} {c n : Nat} {l : List Nod} (s : SlV φ a c l) (HP : Hid (PowP φ)) (HT : Hid (TrOk l n)) (d : Nat) (IH : Hid (LnC l φ a n c d)) : LnC l φ a n c (d + 1) := by
  intro p lev L w t hL hd hp hlv hf ht
  have hn : Hid (l.length = n) := Lib.hid HT.out.len
  have hn6 : n ≤ 600 := HT.out.pos.2
  have HPX := Lib.hid hp
  have HLV := Lib.hid hlv
  have HL := Lib.hid hL
  have HF := Lib.hid hf
  have hlev8 : lev ≤ 8 := by omega
  have hsz := txD_le HT.out (d + 1) p lev (by omega)
  rw [txD, HT.out.len] at hsz ht
  have HSZ := Lib.hid hsz
  have HTX := Lib.hid ht
  have hL9 : L ≤ 8 ∧ 0 ≤ L := by omega
  obtain ⟨hL8, hL0⟩ := hL9
  clear hp hlv hsz ht hL hf
  go_enter Tryd.func24, Tryd.ntmps24
  go_wp2
  go_loopw [7, 12] (fun sv i wr => ∃ (k : Nat) (tk : ByteArray), k ≤ n ∧ i = .int .i64 k ∧ sv = .string tk ∧ Hid (txK l (fun c => txD l d c (lev + 1)) p lev k = tk) ∧ Hid (Below w.heap.size w wr)) (fun _ i _ => n - (intOf i).toNat)
  case atStart => exact ⟨0, _, Nat.zero_le _, rfl, rfl, Lib.hid rfl, Lib.hid (Below.refl _ _)⟩
  case round =>
    obtain ⟨k, tk, hk, rfl, rfl, htk, hB⟩ := hrel
    by_cases hlt : k < n
    · obtain ⟨b, off, rfl, f⟩ := s.nodesD hn hlt
      obtain ⟨hb, c1, c2, c3⟩ := f k hlt wr (HF.out.below hB.out)
      have hnx : Hid (txK l (fun c => txD l d c (lev + 1)) p lev (k + 1) = if par0 l k = p then txK l (fun c => txD l d c (lev + 1)) p lev k ++ (lineB l lev k ++ txD l d (cod l k) (lev + 1)) else txK l (fun c => txD l d c (lev + 1)) p lev k) := Lib.hid rfl
      have hmo := Lib.hid (txK_mono (l := l) (fun c => txD l d c (lev + 1)) p lev (k := k + 1) (m := n) (by omega))
      have hlvn := Lib.hid (lvl_node HT.out hlt)
      have hl8 : Hid (lvl l (cod l k) ≤ 8) := Lib.hid (by have := (lvF_at HT.out (.inr hlvn.out.1)).2; exact this)
      have hrg := HT.out.rng k hlt
      have htz := (HT.out.tit k hlt).1
      have hit := itoaB_size (n := cod l k) (by omega) (by omega)
      obtain ⟨si, hsi⟩ : ∃ si, Hid (itoaB (cod l k) = si) := ⟨_, Lib.hid rfl⟩
      have hline : Hid (lineB l lev k = (((indB lev ++ itoaB (cod l k)) ++ ⟨#[32]⟩) ++ tit l k) ++ ⟨#[10]⟩) := Lib.hid rfl
      rw [hsi.out] at hit hline
      rw [show (l.getD k nod0).1 = cod l k from rfl] at c1
      rw [show (l.getD k nod0).2.1 = par0 l k from rfl] at c2
      rw [show (l.getD k nod0).2.2 = tit l k from rfl] at c3
      generalize cod l k = m at *
      generalize par0 l k = pa at *
      generalize tit l k = ti at *
      have hX0 : Hid (LnS w φ wr.heap.size #[.int .i64 m, .int .i64 pa, .string ti] 38 (wr.alloc (.cells #[.int .i64 m, .int .i64 pa, .string ti] 38))) := Lib.hid ⟨hB.out.alloc hB.out.size _, (HF.out.below hB.out).alloc _, Blk.new _ _ _⟩
      clear f hB hb
      by_cases hpe : pa = p
      case neg =>
        have hne : ((pa : Int) == p) = false := by simp [hpe]
        have hkeep : Hid (txK l (fun c => txD l d c (lev + 1)) p lev (k + 1) = tk) := Lib.hid (by rw [hnx.out, if_neg hpe, htk.out])
        have HPE := Lib.hid hpe
        clear hpe
        go_wp2
        go_roundw
        case rel => exact ⟨k + 1, tk, by omega, by go_num, rfl, hkeep, Lib.hid hX0.out.bel⟩
        case measure => (simp [intOf] <;> omega)
      subst hpe
      obtain ⟨sd, hsd⟩ : ∃ sd, Hid (txD l d m (lev + 1) = sd) := ⟨_, Lib.hid rfl⟩
      obtain ⟨ib, hibe⟩ : ∃ ib, Hid (indB lev = ib) := ⟨_, Lib.hid rfl⟩
      have hadd : Hid (txK l (fun c => txD l d c (lev + 1)) pa lev (k + 1) = tk ++ (((((ib ++ si) ++ ⟨#[32]⟩) ++ ti) ++ ⟨#[10]⟩) ++ sd)) := Lib.hid (by rw [hnx.out, if_pos rfl, htk.out, hline.out, hibe.out, hsd.out])
      have hlm : Hid (lvl l m = lev + 1) := Lib.hid (by rw [hlvn.out.2.1, HLV.out])
      have hd1 : 1 ≤ d := by have := hl8.out; have := hlm.out; omega
      have hib := indB_size lev
      rw [hibe.out] at hib
      have hbd : tk.size + (ib.size + si.size + 1 + ti.size + 1 + sd.size) ≤ 60000 := by
        have h1 := HSZ.out
        have h2 := hmo.out
        rw [hadd.out] at h2
        simp only [ByteArray.size_append] at h2
        have e1 : (⟨#[32]⟩ : ByteArray).size = 1 := rfl
        have e2 : (⟨#[10]⟩ : ByteArray).size = 1 := rfl
        omega
      have hg1 : ¬ 9223372036854775807 < ib.size + si.size := by omega
      have hg2 : ¬ 9223372036854775807 < ib.size + si.size + 1 := by omega
      have hg3 : ¬ 9223372036854775807 < ib.size + si.size + 1 + ti.size := by omega
      have hg4 : ¬ 9223372036854775807 < ib.size + si.size + 1 + ti.size + 1 := by omega
      have hg5 : ¬ 9223372036854775807 < ib.size + si.size + 1 + ti.size + 1 + sd.size := by omega
      have hg6 : ¬ 9223372036854775807 < tk.size + (ib.size + si.size + 1 + ti.size + 1 + sd.size) := by omega
      have hwr : IntKind.i64.wrap (L + 1) = L + 1 := IntWalk.i64_in _ (by omega)
      have HL1 : Hid (L + 1 = ((lev + 1 : Nat) : Int)) := Lib.hid (by rw [HL.out]; omega)
      have HMX : Hid (m = 0 ∨ (ix l m).isSome = true) := Lib.hid (.inr hlvn.out.1)
      clear hib hbd hmo hnx hline hlvn
      go_wp2
      obtain ⟨bd, hbde⟩ : ∃ bd, Hid (wr.heap.size = bd) := ⟨_, Lib.hid rfl⟩
      rw [hbde.out] at hX0 ⊢
      generalize wr.alloc (.cells #[.int .i64 m, .int .i64 pa, .string ti] 38) = wx at *
      have y0 : wx.cell? ⟨bd, 0, none⟩ = some (.int .i64 m) := hX0.out.d.cell 0
      have y1 : wx.cell? ⟨bd, 2, none⟩ = some (.string ti) := hX0.out.d.cell 2
      have hX1 : Hid (LnS w φ bd #[.int .i64 m, .int .i64 pa, .string ti] 38 wx.drew) := Lib.hid (hX0.out.callB (bdrewN (Below.refl _ _) 1))
      clear c1 c2 c3 hX0
      go_region_held3 (fun w' => w'.cell? ⟨bd, 0, none⟩ = some (.int .i64 m) ∧ w'.cell? ⟨bd, 2, none⟩ = some (.string ti)) (first | exact ⟨y0, y1⟩ | exact ⟨by assumption, by assumption⟩) (first
        | ((with_reducible refine (Repeat_L (k := lev) HL (by omega) hibe (Hid.out (by assumption))).mono ?_); rintro e w' ⟨rfl, hX⟩; have z0 : w'.cell? ⟨bd, 0, none⟩ = some (.int .i64 m) := hX.out.d.cell 0; have z1 : w'.cell? ⟨bd, 2, none⟩ = some (.string ti) := hX.out.d.cell 2)
        | ((with_reducible refine (Itoa_L hrg.1 hrg.2 HP.out hsi (Hid.out (by assumption))).mono ?_); rintro e w' ⟨rfl, hX⟩; have z0 : w'.cell? ⟨bd, 0, none⟩ = some (.int .i64 m) := hX.out.d.cell 0; have z1 : w'.cell? ⟨bd, 2, none⟩ = some (.string ti) := hX.out.d.cell 2)
        | ((with_reducible refine (lines_L IH HL1 (by omega) HMX hlm hsd (Hid.out (by assumption))).mono ?_); rintro e w' ⟨rfl, hX⟩; have z0 : w'.cell? ⟨bd, 0, none⟩ = some (.int .i64 m) := hX.out.d.cell 0; have z1 : w'.cell? ⟨bd, 2, none⟩ = some (.string ti) := hX.out.d.cell 2))
      all_goals
        rename World => W9
        have hX9 : Hid (LnS w φ bd #[.int .i64 m, .int .i64 pa, .string ti] 38 W9) := by assumption
        go_wp2
        go_roundw
        case rel => exact ⟨k + 1, _, by omega, by go_num, rfl, hadd, Lib.hid hX9.out.bel⟩
        case measure => (simp [intOf] <;> omega)
    · obtain rfl : n = k := by omega
      go_wp2
      go_ret
      exact ⟨congrArg (fun z => Ending.returned (.string z)) (htk.out.symm.trans HTX.out), hB.out⟩
theorem lines_any {φ : Phi} {a : Option Addr} {c n : Nat} {l : List Nod} (s : SlV φ a c l) (HP : Hid (PowP φ)) (HT : Hid (TrOk l n)) : ∀ d, LnC l φ a n c d
  | 0 => by
    intro p lev L w t hL hd hp hlv
    have := (lvF_at HT.out hp).2
    omega
  | d + 1 => lines_step s HP HT d (Lib.hid (lines_any s HP HT d))
set_option maxHeartbeats 1000000 in
theorem RText_any {w : World} {a : Option Addr} {c n : Nat} {l : List Nod} {φ : Phi} (hφ : Fz φ w) (hp : PowP φ) (s : SlV φ a c l) (hn : Hid (l.length = n)) (hm : n ≤ 9223372036854775807) {t : ByteArray} {F : Int} (ht : Hid (textF l = (t, F))) :
    Calls Tryd.prog 7 #[.slice a n c] w (fun e w' => e = .returned (.tuple #[.string t, .int .i64 F]) ∧ Below w.heap.size w w') := by
  go_enter Tryd.func7, Tryd.ntmps7
  go_wp2_with fail
  refine (CheckFrame_any n a c l w φ hφ s hn hm).mono ?_
  rintro e w1 ⟨rfl, hb⟩
  have HB := Lib.hid hb
  obtain ⟨q, hq⟩ : ∃ q, Hid (treeF l = q) := ⟨_, Lib.hid rfl⟩
  rw [hq.out]
  by_cases h0 : q = 0
  case neg =>
    have hg : ((q : Int) != 0) = true := by simp [h0]
    have e : Hid (t = ⟨#[]⟩ ∧ F = q) := Lib.hid (by have := ht.out; rw [textF, hq.out, if_pos h0] at this; cases this; exact ⟨rfl, rfl⟩)
    clear h0 hb
    go_wp2
    go_ret2
    exact ⟨by rw [e.out.1, e.out.2]; rfl, HB.out⟩
  subst h0
  have e : Hid (txD l 9 0 0 = t ∧ F = 0) := Lib.hid (by have := ht.out; rw [textF, if_neg (by rw [hq.out]; simp)] at this; cases this; exact ⟨rfl, rfl⟩)
  have HT : Hid (TrOk l n) := Lib.hid (by have := treeF_zero hq.out; rwa [hn.out] at this)
  have hsz := txD_le HT.out 9 0 0 (by omega)
  rw [e.out.1] at hsz
  have hsz2 : (t.size : Int) ≤ 60000 := by omega
  have HLC := Lib.hid (lines_any s (Lib.hid hp) HT 9)
  go_wp2_with (go_at_call 24; refine (HLC.out 0 0 0 _ t rfl rfl (.inl rfl) (lvl_zero l) (hφ.below HB.out) e.out.1).mono ?_; rintro e2 w2 ⟨rfl, hb2⟩; have HB2 := Lib.hid (HB.out.trans (hb2.mono HB.out.size)); clear hb2)
  go_ret2
  exact ⟨by rw [e.out.2]; rfl, HB2.out⟩
end Go.Proofs.YtapkkplndhbapaaDoor
