/- The walk of Text. Conditions: the library's table of powers of ten reads as it was laid. -/
import Derived.Test.YtambgcijceecpaaDoorT3
namespace Go.Proofs.YtambgcijceecpaaDoor
open Go.RowKit
set_option linter.unusedVariables false
section
variable {w0 W : World} {φ ψ : Phi} {bb bd : Nat} {t : ByteArray} {ds : Array Value} {E : TypeId}
theorem codes_S {nc : Nat} {a : Option Addr} {c : Nat} {cs : List Int} (hp : PowP ψ) (s : SlV ψ a c cs) (hn : Hid (cs.length = nc)) (hl : nc ≤ 999) (hr : Hid (∀ x ∈ cs, 1 ≤ x ∧ x ≤ 999)) {u : ByteArray} (ht : Hid (codesB cs = u)) (h : ReS w0 φ ψ bb t bd ds E W) :
    Calls Tryd.prog 53 #[.slice a nc c] W (fun e w' => e = .returned (.string u) ∧ Hid (ReS w0 φ ψ bb t bd ds E w')) := by
  refine (codesText_any h.fz hp s hn hl hr ht).mono ?_
  rintro e w' ⟨rfl, hb⟩
  exact ⟨rfl, Lib.hid (h.callB hb)⟩
theorem itoa_S {x : Int} (hp : PowP ψ) (h0 : 1 ≤ x) (h1 : x ≤ 1000) (h : ReS w0 φ ψ bb t bd ds E W) :
    Calls Tryd.prog 54 #[.int .i64 x] W (fun e w' => e = .returned (.string (itoaB x)) ∧ Hid (ReS w0 φ ψ bb t bd ds E w')) := by
  refine (Itoa_any x (by omega) (by omega) W ψ h.fz hp).mono ?_
  rintro e w' ⟨rfl, hb⟩
  exact ⟨rfl, Lib.hid (h.callB hb)⟩
theorem wstr_S {s : ByteArray} (hE : E ≠ 5) (hsz : Hid (t.size + s.size ≤ 140737488355328)) (h : ReS w0 φ ψ bb t bd ds E W) :
    Calls Tryd.prog 52 #[.pointer (some ⟨bb, 0, none⟩), .string s] W (fun e w' => e = .returned (.tuple #[.int .i64 s.size, .nilIface]) ∧ Hid (ReS w0 φ φ bb (t ++ s) bd ds E w')) := by
  refine (WriteString_any h.tx hsz.out).mono ?_
  rintro e w' ⟨rfl, h1, h2⟩
  exact ⟨rfl, Lib.hid (h.wrote hE h1 h2)⟩
theorem Join_S {n : Nat} {a : Option Addr} {c : Nat} {xs : List ByteArray} {sep : ByteArray} (s : SlV ψ a c xs) (hn : Hid (xs.length = n)) (hsz : (jn xs sep).size ≤ 140737488355328) (hl : n ≤ 1000000) (h : ReS w0 φ ψ bb t bd ds E W) :
    Calls Tryd.prog 55 #[.slice a n c, .string sep] W (fun e w' => e = .returned (.string (jn xs sep)) ∧ Hid (ReS w0 φ ψ bb t bd ds E w')) := by
  refine (Join_any h.fz s hn hsz hl).mono ?_
  rintro e w' ⟨rfl, hb⟩
  exact ⟨rfl, Lib.hid (h.callB hb)⟩
end
set_option maxRecDepth 100000 in
set_option maxHeartbeats 2000000 in
theorem Text_any
  (n : Nat) (a : Option Addr) (cap : Nat) (fs : List Fld) (m : Nat) (ae : Option Addr) (ce : Nat) (es : List Edt) (w : World) (φ : Phi) (hφ : Fz φ w) (hpw : PowP φ) (s : SlV φ a cap fs) (hn : Hid (fs.length = n)) (hm : n ≤ 9223372036854775807) (hg : Hid (∀ x ∈ fs, FldG x)) (se : SlV φ ae ce es) (hne : Hid (es.length = m)) (hme : m ≤ 9223372036854775807) (hge : Hid (∀ x ∈ es, EdtG x))
    {F : Int} (hF : Hid (planF fs es = F)) {t : ByteArray} {G : Int} (ht : Hid (textR fs es F = (t, G))) :
    Calls Tryd.prog 25 #[.agg #[.slice a n cap, .slice ae m ce]] w (fun e w' => e = .returned (.tuple #[.string t, .int .i64 G]) ∧ Below w.heap.size w w') := by
  obtain ⟨φ1, le1, i1, k1⟩ := (Inv.start hφ).frz (.cells #[.slice a n cap, .slice ae m ce] 25)
  have HI0 := Lib.hid i1
  have HBX := Lib.hid (fun (w' : World) (hf : Fz φ1 w') => (hf.blk k1))
  have HPW := Lib.hid (hpw.mono le1)
  have LE1 := Lib.hid le1
  have K1 := Lib.hid k1
  clear i1 k1 le1 hpw
  have s1 := s.mono LE1.out
  have se1 := se.mono LE1.out
  go_enter Tryd.func25, Tryd.ntmps25
  go_wp2_with fail
  refine (CheckPlan_any n a cap fs m ae ce es _ φ1 HI0.out.fz s1 hn hm hg se1 hne hme hge).mono ?_
  rintro e w1 ⟨rfl, hb1⟩
  have HI1 := Lib.hid (HI0.out.callB hb1).toSelf
  have HB1 := Lib.hid (HI0.out.callB hb1).bel
  clear hb1 HI0
  generalize hbp : w.heap.size = bp at *
  replace hbp := Lib.hid hbp
  rw [hF.out]
  by_cases hf : F = 0
  case neg =>
    have hff : (F != 0) = true := by simp [hf]
    have HQ : Hid ((⟨#[]⟩, F) = (t, G)) := Lib.hid (by rw [← ht.out, textR, if_pos hf])
    clear hf
    go_wp2
    go_ret2
    obtain ⟨rfl, rfl⟩ := Prod.mk.inj HQ.out
    exact ⟨rfl, by rw [hbp.out]; exact HB1.out⟩
  subst hf
  have TX := Lib.hid (txOk hF.out)
  have ht2 := ht.out
  rw [textR, if_neg (by simp)] at ht2
  have HQ := Lib.hid ht2
  have H0 := Lib.hid (TxSt.start (w0 := w) (by rw [hbp.out]; exact HI1.out))
  have hn12 : n ≤ 12 := by rw [← hn.out]; exact TX.out.n
  have hm60 : m ≤ 60 := by rw [← hne.out]; exact TX.out.m
  have p0 : (w1.alloc (.cells #[.pointer none, .slice none 0 0] 85)).cell? ⟨bp, 0, none⟩ = some (.slice a n cap) := (HBX.out _ H0.out.inv.fz).cell 0
  clear ht2 HI1 HB1 ht
  go_wp2
  clear p0
  generalize w1.alloc (.cells #[.pointer none, .slice none 0 0] 85) = w2 at *
  generalize w1.heap.size = bb at *
  go_loopw [21] (fun i wr => ∃ k : Nat, k ≤ n ∧ i = .int .i64 k ∧ Hid (TxSt w φ1 bb (fldsK fs k) wr)) (fun i _ => n - (intOf i).toNat)
  case atStart => exact ⟨0, Nat.zero_le _, rfl, H0⟩
  case round =>
    clear H0
    obtain ⟨k, hk, rfl, hS⟩ := hrel
    by_cases hlt : k < n
    · obtain ⟨b1, o1, rfl, f1⟩ := s1.fldD hn hlt
      obtain ⟨a3, c3, s3, f1⟩ := f1 k hlt
      obtain ⟨_, d0, d1, d2⟩ := f1 wr hS.out.inv.fz
      have hkl : k < fs.length := by rw [hn.out]; exact hlt
      have hnm := TX.out.nm k hkl
      obtain ⟨hcz, hcl, hcr⟩ := TX.out.cs k hkl
      have hwt := TX.out.wt k hkl
      have HLN : Hid (fldsK fs (k + 1) = fldsK fs k ++ fldLine (fs.getD k fld0)) := Lib.hid rfl
      have hls := fldLine_size hnm hcz hwt
      have htk := fldsK_size TX.out k (by omega)
      clear f1
      generalize fs.getD k fld0 = X at *
      obtain ⟨nk, ck, wk⟩ := X
      dsimp only at d0 d1 d2 s3 hnm hcz hcl hcr hwt
      obtain ⟨nc, hnc⟩ : ∃ j, Hid (ck.length = j) := ⟨_, Lib.hid rfl⟩
      rw [hnc.out] at d1 hcl
      have HCR := Lib.hid hcr
      obtain ⟨tc, htc⟩ : ∃ x, Hid (codesB ck = x) := ⟨_, Lib.hid rfl⟩
      have hln : fldLine (nk, ck, wk) = (((((⟨#[102, 105, 101, 108, 100, 32]⟩ ++ nk) ++ ⟨#[32]⟩) ++ tc) ++ ⟨#[32, 119, 101, 105, 103, 104, 116, 32]⟩) ++ itoaB wk) ++ ⟨#[10]⟩ := by rw [fldLine, htc.out]
      rw [htc.out] at hcz
      rw [hln] at HLN hls
      have h8 := itoaB_size (n := wk) (by omega) (by omega)
      generalize fldsK fs k = tk at *
      have HSZ : Hid (tk.size + ((((((⟨#[102, 105, 101, 108, 100, 32]⟩ ++ nk) ++ ⟨#[32]⟩) ++ tc) ++ ⟨#[32, 119, 101, 105, 103, 104, 116, 32]⟩) ++ itoaB wk) ++ ⟨#[10]⟩ : ByteArray).size ≤ 140737488355328) := Lib.hid (by omega)
      have hbd : wr.heap.size ≠ bb := by have := hS.out.lt; omega
      have hR : Hid (ReS w φ1 φ1 bb tk wr.heap.size #[.string nk, .slice a3 nc c3, .int .i64 wk] 87 (wr.alloc (.cells #[.string nk, .slice a3 nc c3, .int .i64 wk] 87))) := Lib.hid ⟨hS.out.callB ((Below.refl _ _).alloc (Nat.le_refl _) _), Blk.new _ _ _, hS.out.inv.fz.alloc _, hbd⟩
      have S3 := Lib.hid s3
      clear hS hcr hls htk hln s3
      go_wp2
      clear d0 d1 d2
      generalize wr.alloc (.cells #[.string nk, .slice a3 nc c3, .int .i64 wk] 87) = wy at *
      generalize wr.heap.size = bd at *
      have hRd : Hid (ReS w φ1 φ1 bb tk bd #[.string nk, .slice a3 nc c3, .int .i64 wk] 87 wy.drew) := Lib.hid (hR.out.callB (bdrewN (Below.refl wy.heap.size wy) 1))
      have y0 : wy.cell? ⟨bd, 0, none⟩ = some (.string nk) := hR.out.d.cell 0
      have y1 : wy.cell? ⟨bd, 1, none⟩ = some (.slice a3 nc c3) := hR.out.d.cell 1
      have y2 : wy.cell? ⟨bd, 2, none⟩ = some (.int .i64 wk) := hR.out.d.cell 2
      have hwt1 := hwt.1
      have hwt2 := hwt.2
      have hg1 : ¬ 9223372036854775807 < 6 + nk.size := by omega
      have hg2 : ¬ 9223372036854775807 < 6 + nk.size + 1 := by omega
      have hg3 : ¬ 9223372036854775807 < 6 + nk.size + 1 + tc.size := by omega
      have hg4 : ¬ 9223372036854775807 < 6 + nk.size + 1 + tc.size + 8 := by omega
      have hg5 : ¬ 9223372036854775807 < 6 + nk.size + 1 + tc.size + 8 + (itoaB wk).size := by omega
      have hg6 : ¬ 9223372036854775807 < 6 + nk.size + 1 + tc.size + 8 + (itoaB wk).size + 1 := by omega
      go_region_held3 (fun w' => w'.cell? ⟨bd, 0, none⟩ = some (.string nk) ∧ w'.cell? ⟨bd, 1, none⟩ = some (.slice a3 nc c3) ∧ w'.cell? ⟨bd, 2, none⟩ = some (.int .i64 wk)) (first | exact ⟨y0, y1, y2⟩ | exact ⟨by assumption, by assumption, by assumption⟩) (first
        | ((with_reducible refine (codes_S HPW.out S3.out hnc (by omega) HCR htc (Hid.out (by assumption))).mono ?_); rintro e w' ⟨rfl, hX⟩; have z0 : w'.cell? ⟨bd, 0, none⟩ = some (.string nk) := hX.out.d.cell 0; have z1 : w'.cell? ⟨bd, 1, none⟩ = some (.slice a3 nc c3) := hX.out.d.cell 1; have z2 : w'.cell? ⟨bd, 2, none⟩ = some (.int .i64 wk) := hX.out.d.cell 2)
        | ((with_reducible refine (itoa_S HPW.out hwt1 hwt2 (Hid.out (by assumption))).mono ?_); rintro e w' ⟨rfl, hX⟩; have z0 : w'.cell? ⟨bd, 0, none⟩ = some (.string nk) := hX.out.d.cell 0; have z1 : w'.cell? ⟨bd, 1, none⟩ = some (.slice a3 nc c3) := hX.out.d.cell 1; have z2 : w'.cell? ⟨bd, 2, none⟩ = some (.int .i64 wk) := hX.out.d.cell 2)
        | ((with_reducible refine (wstr_S (E := 87) (by decide) HSZ (Hid.out (by assumption))).mono ?_); rintro e w' ⟨rfl, hX⟩; have z0 : w'.cell? ⟨bd, 0, none⟩ = some (.string nk) := hX.out.d.cell 0; have z1 : w'.cell? ⟨bd, 1, none⟩ = some (.slice a3 nc c3) := hX.out.d.cell 1; have z2 : w'.cell? ⟨bd, 2, none⟩ = some (.int .i64 wk) := hX.out.d.cell 2))
      rename World => W9
      have hX9 : Hid (ReS w φ1 φ1 bb (tk ++ ((((((⟨#[102, 105, 101, 108, 100, 32]⟩ ++ nk) ++ ⟨#[32]⟩) ++ tc) ++ ⟨#[32, 119, 101, 105, 103, 104, 116, 32]⟩) ++ itoaB wk) ++ ⟨#[10]⟩)) bd #[.string nk, .slice a3 nc c3, .int .i64 wk] 87 W9) := by assumption
      go_wp2
      go_roundw
      case rel => exact ⟨k + 1, by omega, by go_num, by rw [HLN.out]; exact Lib.hid hX9.out.tx⟩
      case measure => simp [intOf]; omega
    · obtain rfl : n = k := by omega
      have p0 : wr.cell? ⟨bp, 0, none⟩ = some (.slice a n cap) := (HBX.out _ hS.out.inv.fz).cell 0
      have p1 : wr.cell? ⟨bp, 1, none⟩ = some (.slice ae m ce) := (HBX.out _ hS.out.inv.fz).cell 1
      have H0 := hS
      clear hS
      go_wp2
      clear p0 p1 hk
      generalize wr = w3 at *
      go_loopw [44] (fun i wr => ∃ k : Nat, k ≤ m ∧ i = .int .i64 k ∧ Hid (TxSt w φ1 bb (edtsK fs es (fldsK fs n) k) wr)) (fun i _ => m - (intOf i).toNat)
      case atStart => exact ⟨0, Nat.zero_le _, rfl, H0⟩
      case round =>
        clear H0
        obtain ⟨k, hk, rfl, hS⟩ := hrel
        by_cases hlt : k < m
        · obtain ⟨b1, o1, hae, f1⟩ := se1.edtD hne hlt
          obtain ⟨ac, cc, sk, f1⟩ := f1 k hlt
          obtain ⟨_, d0, d1⟩ := f1 wr hS.out.inv.fz
          subst hae
          have hkl : k < es.length := by rw [hne.out]; exact hlt
          have hnm := TX.out.en k hkl
          obtain ⟨hln0, hst⟩ := TX.out.st k hkl
          have HLN : Hid (edtsK fs es (fldsK fs n) (k + 1) = edtsK fs es (fldsK fs n) k ++ edtLine fs (es.getD k edt0)) := Lib.hid rfl
          have hls := edtLine_size TX.out hkl
          have htk := edtsK_size TX.out k (by omega)
          rw [hn.out] at htk
          have hps := fun j hj => parts_size TX.out hkl (k := j) hj
          clear f1
          generalize es.getD k edt0 = X at *
          obtain ⟨nk, ss⟩ := X
          dsimp only at d0 d1 sk hnm hln0 hst hps
          generalize edtsK fs es (fldsK fs n) k = tk at *
          have hns : Hid (ss.length = n) := Lib.hid (hln0.trans hn.out)
          rw [hns.out] at d1
          have HST := Lib.hid hst
          have hln : edtLine fs (nk, ss) = (((⟨#[101, 100, 105, 116, 32]⟩ ++ nk) ++ ⟨#[58]⟩) ++ jn (partsK fs ss n) ⟨#[59]⟩) ++ ⟨#[10]⟩ := by rw [edtLine, hns.out]
          rw [hln] at HLN hls
          have hps := hps n (Nat.le_of_eq hn.out.symm)
          have HPS := Lib.hid hps
          obtain ⟨φ2, le2, i2, k2⟩ := (Inv.start hS.out.inv.fz).frz (.cells #[.string nk, .slice ac n cc] 95)
          have y0 : (wr.alloc (.cells #[.string nk, .slice ac n cc] 95)).cell? ⟨wr.heap.size, 0, none⟩ = some (.string nk) := (i2.fz.blk k2).cell 0
          have y1 : (wr.alloc (.cells #[.string nk, .slice ac n cc] 95)).cell? ⟨wr.heap.size, 1, none⟩ = some (.slice ac n cc) := (i2.fz.blk k2).cell 1
          have HI2 : Hid (Inv wr.heap.size wr φ1 φ2 (wr.alloc (.cells #[.string nk, .slice ac n cc] 95)) ∧ Own wr.heap.size φ2 (wr.alloc (.cells #[.string nk, .slice ac n cc] 95)) 9 none 0 (partsK fs ss 0)) := Lib.hid ⟨i2, Own.nil _ _ _ _⟩
          have KD := Lib.hid k2
          have LE2 := Lib.hid le2
          have S2 := Lib.hid (s1.mono le2)
          have SK := Lib.hid (sk.mono le2)
          have HP2 := Lib.hid (HPW.out.mono le2)
          have HBX2 := Lib.hid (fun (w' : World) (hf : Fz φ2 w') => (hf.blk (le2 _ _ K1.out)))
          have HNM := Lib.hid hnm
          have HLS := Lib.hid hls
          have HTK := Lib.hid htk
          clear hps hst hln hnm hls htk i2 k2 le2 sk
          go_wp2
          clear d0 d1 y0 y1
          generalize wr.alloc (.cells #[.string nk, .slice ac n cc] 95) = wy at *
          generalize hbd : wr.heap.size = bd at *
          replace hbd := Lib.hid hbd
          generalize wr = w8 at *
          go_loopw [10, 51] (fun v i wr => ∃ (j : Nat) (ap : Option Addr) (cp N : Nat), j ≤ n ∧ v = .slice ap N cp ∧ i = .int .i64 j ∧ Hid ((partsK fs ss j).length = N) ∧ Hid (Inv bd w8 φ1 φ2 wr ∧ Own bd φ2 wr 9 ap cp (partsK fs ss j))) (fun _ i _ => n - (intOf i).toNat)
          case atStart => exact ⟨0, none, 0, 0, Nat.zero_le _, rfl, rfl, Lib.hid rfl, HI2⟩
          case round =>
            clear HI2
            obtain ⟨j, ap, cp, N, hj, rfl, rfl, hN, hT⟩ := hrel
            by_cases hjl : j < n
            · obtain ⟨bs, os, hab, fS⟩ := SK.out.lists hns hjl
              obtain ⟨a4, c4, sj, fS⟩ := fS j hjl
              have q1 := (fS wr hT.out.1.fz).2
              obtain ⟨bf, of_, hab2, fF⟩ := S2.out.fldD hn hjl
              obtain ⟨a5, c5, sf, fF⟩ := fF j hjl
              have q3 := (fF wr hT.out.1.fz).2.2.1
              have HC1 := fun (w' : World) (hf : Fz φ2 w') => (fF w' hf).2.1
              have HC0 : ∀ w', Fz φ2 w' → w'.cell? ⟨bp, 0, none⟩ = some (.slice a n cap) := fun w' hf => (HBX2.out w' hf).cell 0
              subst hab
              subst hab2
              obtain ⟨h8, h9, h10⟩ := HST.out j (by rw [hn.out]; exact hjl)
              have hnj := TX.out.nm j (by rw [hn.out]; exact hjl)
              have HPT := Lib.hid (partsK_t (fs := fs) (ss := ss) (k := j))
              have HPF := Lib.hid (partsK_f (fs := fs) (ss := ss) (k := j))
              have hN12 : N ≤ 12 := by rw [← hN.out]; exact Nat.le_trans partsK_len (by omega)
              clear fS fF
              generalize ss.getD j [] = st at *
              generalize fs.getD j fld0 = Y at *
              obtain ⟨nj, cj, wj⟩ := Y
              dsimp only at q3 HC1 hnj
              replace HPT : Hid (st.length < cj.length → partsK fs ss (j + 1) = partsK fs ss j ++ [edtPart (nj, cj, wj) st]) := HPT
              replace HPF : Hid (¬ st.length < cj.length → partsK fs ss (j + 1) = partsK fs ss j) := HPF
              obtain ⟨ls, hls⟩ : ∃ i, Hid (st.length = i) := ⟨_, Lib.hid rfl⟩
              obtain ⟨lc, hlc⟩ : ∃ i, Hid (cj.length = i) := ⟨_, Lib.hid rfl⟩
              rw [hls.out] at q1 h9 HPT HPF
              rw [hlc.out] at q3 HPT HPF
              have HR := Lib.hid h10
              have p0 : wr.cell? ⟨bp, 0, none⟩ = some (.slice (some ⟨bf, of_, none⟩) n cap) := HC0 wr hT.out.1.fz
              have p1 : wr.cell? ⟨bf, of_ + j * 3, none⟩ = some (.string nj) := HC1 wr hT.out.1.fz
              have SJ := Lib.hid sj
              replace HC0 := Lib.hid HC0
              replace HC1 := Lib.hid HC1
              clear h10 sj sf
              by_cases hcmp : ls < lc
              · have HPT2 := Lib.hid (HPT.out hcmp)
                obtain ⟨tc, htc⟩ : ∃ x, Hid (codesB st = x) := ⟨_, Lib.hid rfl⟩
                have hpt : edtPart (nj, cj, wj) st = ((⟨#[32]⟩ ++ nj) ++ ⟨#[32]⟩) ++ tc := by rw [edtPart, htc.out]
                rw [hpt] at HPT2
                rw [htc.out] at h8
                have hTd : Hid (Inv bd w8 φ1 φ2 wr.drew ∧ Own bd φ2 wr.drew 9 ap cp (partsK fs ss j)) := Lib.hid ⟨hT.out.1.drew, hT.out.2.drew⟩
                have hi1 : (0 : Int) ≤ (j : Int) := by omega
                have hi2 : (j : Int) < (n : Int) := by omega
                have hg1 : ¬ 9223372036854775807 < 1 + nj.size := by omega
                have hg2 : ¬ 9223372036854775807 < 1 + nj.size + 1 := by omega
                have hg3 : ¬ 9223372036854775807 < 1 + nj.size + 1 + tc.size := by omega
                clear hpt HPT HPF h8 hnj
                go_wp2
                clear q1 q3
                go_region_held3 (fun w' => w'.cell? ⟨bp, 0, none⟩ = some (.slice (some ⟨bf, of_, none⟩) n cap) ∧ w'.cell? ⟨bf, of_ + j * 3, none⟩ = some (.string nj)) (first | exact ⟨p0, p1⟩ | exact ⟨by assumption, by assumption⟩ | exact ⟨HC0.out _ (Fz.alloc (by assumption) _), HC1.out _ (Fz.alloc (by assumption) _)⟩) (first
                  | ((with_reducible refine (codesText_any hTd.out.1.fz HP2.out SJ.out hls (by omega) HR htc).mono ?_); rintro e w5 ⟨rfl, hb5⟩; have hT5 : Hid (Inv bd w8 φ1 φ2 w5 ∧ Own bd φ2 w5 9 ap cp (partsK fs ss j)) := Lib.hid ⟨hTd.out.1.callB hb5, hTd.out.2.callB hb5⟩; have hf5 : Fz φ2 w5 := hT5.out.1.fz; have z0 := HC0.out w5 hf5; have z1 := HC1.out w5 hf5; clear hb5)
                  | ((refine step_appF (α := ByteArray) (by rfl) _ _ _ (by rfl) slS (hT5.out.1.alloc _) ap cp _ (by rw [hN.out]; rfl) (hT5.out.2.alloc _) ⟨w5.heap.size, 0, none⟩ 1 [((⟨#[32]⟩ ++ nj) ++ ⟨#[32]⟩) ++ tc] [.string (((⟨#[32]⟩ ++ nj) ++ ⟨#[32]⟩) ++ tc)] 1 (by rfl) (by rfl) (RepL.single rfl) (new_cells w5 #[.string (((⟨#[32]⟩ ++ nj) ++ ⟨#[32]⟩) ++ tc)] 9) (by rw [hN.out]; show (N + 1) * 16 ≤ _; omega) ?_); intro a8 c8 w7 hi8 ho8 hg8 hf8; have hT8 : Hid (Inv bd w8 φ1 φ2 w7 ∧ Own bd φ2 w7 9 a8 c8 (partsK fs ss j ++ [((⟨#[32]⟩ ++ nj) ++ ⟨#[32]⟩) ++ tc])) := Lib.hid ⟨hi8, ho8⟩; have z0 := HC0.out w7 hi8.fz; have z1 := HC1.out w7 hi8.fz; clear hi8 ho8 hg8 hf8))
                have hT9 := hT8
                go_wp2
                go_roundw
                case rel => exact ⟨j + 1, _, _, _, by omega, rfl, by go_num, Lib.hid (by rw [HPT2.out, List.length_append, hN.out]; rfl), by rw [HPT2.out]; exact hT9⟩
                case measure => simp [intOf]; omega
              · have HPF2 := Lib.hid (HPF.out hcmp)
                clear HPT HPF
                go_wp2
                go_roundw
                case rel => exact ⟨j + 1, ap, cp, N, by omega, rfl, by go_num, by rw [HPF2.out]; exact hN, by rw [HPF2.out]; exact hT⟩
                case measure => simp [intOf]; omega
            · obtain rfl : n = j := by omega
              obtain ⟨φ3, le3, i3, s3, _⟩ := hT.out.2.release hT.out.1
              have I3 := Lib.hid i3
              have S3 := Lib.hid s3
              have KD3 := Lib.hid (le3 _ _ KD.out)
              clear hT le3 i3 s3
              have hlt3 := hS.out.lt
              rw [hbd.out] at hlt3
              have hX : Hid (ReS w φ1 φ3 bb tk bd #[.string nk, .slice ac n cc] 95 wr.drew) := Lib.hid ⟨hS.out.callB (by rw [hbd.out]; exact I3.out.drew.bel), I3.out.drew.fz.blk KD3.out, I3.out.drew.fz, by omega⟩
              have y0 : wr.cell? ⟨bd, 0, none⟩ = some (.string nk) := hX.out.d.cell 0
              have HSZ : Hid (tk.size + ((((⟨#[101, 100, 105, 116, 32]⟩ ++ nk) ++ ⟨#[58]⟩) ++ jn (partsK fs ss n) ⟨#[59]⟩) ++ ⟨#[10]⟩ : ByteArray).size ≤ 140737488355328) := Lib.hid (by have h1 := HLS.out; have h2 := HTK.out; omega)
              have HJ : Hid ((jn (partsK fs ss n) ⟨#[59]⟩).size ≤ 140737488355328) := Lib.hid (by have h1 := HPS.out; omega)
              have hN12 : N ≤ 12 := by rw [← hN.out]; exact Nat.le_trans partsK_len (by omega)
              generalize partsK fs ss n = pk at *
              clear hS
              have hjs := HJ.out
              have hnm := HNM.out
              have hg1 : ¬ 9223372036854775807 < 5 + nk.size := by omega
              have hg2 : ¬ 9223372036854775807 < 5 + nk.size + 1 := by omega
              have hg3 : ¬ 9223372036854775807 < 5 + nk.size + 1 + (jn pk ⟨#[59]⟩).size := by omega
              have hg4 : ¬ 9223372036854775807 < 5 + nk.size + 1 + (jn pk ⟨#[59]⟩).size + 1 := by omega
              clear hjs hnm
              go_wp2
              go_region_held3 (fun w' => w'.cell? ⟨bd, 0, none⟩ = some (.string nk)) (first | exact y0 | assumption) (first
                | ((with_reducible refine (Join_S S3.out hN HJ.out (by omega) (Hid.out (by assumption))).mono ?_); rintro e w' ⟨rfl, hX⟩; have z0 : w'.cell? ⟨bd, 0, none⟩ = some (.string nk) := hX.out.d.cell 0)
                | ((with_reducible refine (wstr_S (E := 95) (by decide) HSZ (Hid.out (by assumption))).mono ?_); rintro e w' ⟨rfl, hX⟩; have z0 : w'.cell? ⟨bd, 0, none⟩ = some (.string nk) := hX.out.d.cell 0))
              rename World => W9
              have hX9 : Hid (ReS w φ1 φ1 bb (tk ++ ((((⟨#[101, 100, 105, 116, 32]⟩ ++ nk) ++ ⟨#[58]⟩) ++ jn pk ⟨#[59]⟩) ++ ⟨#[10]⟩)) bd #[.string nk, .slice ac n cc] 95 W9) := by assumption
              go_wp2
              go_roundw
              case rel => exact ⟨k + 1, by omega, by go_num, by rw [HLN.out]; exact Lib.hid hX9.out.tx⟩
              case measure => simp [intOf]; omega
        · obtain rfl : m = k := by omega
          have hTB : textB fs es = edtsK fs es (fldsK fs n) m := by rw [textB, hn.out, hne.out]
          rw [← hTB] at hS
          clear hTB
          generalize textB fs es = tt at *
          go_wp2_with fail
          refine (Len_any hS.out).mono ?_
          rintro e w4 ⟨rfl, rfl⟩
          by_cases hbig : 60000 < tt.size
          · have hq := HQ.out
            rw [if_pos hbig] at hq
            obtain ⟨rfl, rfl⟩ := Prod.mk.inj hq
            have hbi : (60000 : Int) < (tt.size : Int) := by omega
            clear hq
            go_wp2
            go_ret2
            exact ⟨rfl, by first | exact hS.out.inv.bel | (rw [hbp.out]; exact hS.out.inv.bel) | (rw [← hbp.out]; exact hS.out.inv.bel)⟩
          · have hq := HQ.out
            rw [if_neg hbig] at hq
            obtain ⟨rfl, rfl⟩ := Prod.mk.inj hq
            have hbi : ¬ (60000 : Int) < (tt.size : Int) := by omega
            clear hq
            go_wp2_with fail
            refine (String_any hS.out).mono ?_
            rintro e w5 ⟨rfl, h5⟩
            have H5 := Lib.hid h5
            clear h5
            go_wp2
            go_ret2
            exact ⟨rfl, by first | exact H5.out.inv.bel | (rw [hbp.out]; exact H5.out.inv.bel) | (rw [← hbp.out]; exact H5.out.inv.bel)⟩
end Go.Proofs.YtambgcijceecpaaDoor
