/- The law CodeWordsMatchSpec's walk, at the claim form's data. Conditions: none beyond what the claim form gives. -/
import Derived.Test.YtapkkplndhbapaaW12
import Derived.Deep.RegionHeld3
namespace Go.Proofs.Ytapkkplndhbapaa
open Go.RowKit
set_option linter.unusedVariables false
/-- slices.Equal of two slices that read as one list. -/
theorem EqualS_same (n : Nat) (a : Option Addr) (cap : Nat) (a2 : Option Addr) (cap2 : Nat) (xs : List ByteArray) (w : World) (φ : Phi) (hφ : Fz φ w) (hs : SlV φ a cap xs) (hs2 : SlV φ a2 cap2 xs) (hn : Hid (xs.length = n)) (hm : n ≤ 9223372036854775807) :
    Calls Try.prog 8 #[.slice a n cap, .slice a2 n cap2] w (fun e w' => e = .returned (.bool true) ∧ Below w.heap.size w w') := by
  have h0 : ((n : Int) != n) = false := by simp
  go_enter Try.func8, Try.ntmps8
  go_wp2
  clear h0
  go_loopw [13] (fun i wr => ∃ k : Nat, k ≤ n ∧ i = .int .i64 k ∧ Below w.heap.size w wr) (fun i _ => n - (intOf i).toNat)
  case atStart => exact ⟨0, Nat.zero_le _, rfl, Below.refl _ _⟩
  case round =>
    obtain ⟨k, hk, rfl, hb⟩ := hrel
    by_cases hlt : k < n
    · obtain ⟨b, off, rfl, hc⟩ := hs.strsD hn hlt
      obtain ⟨b2, off2, rfl, hc2⟩ := hs2.strsD hn hlt
      obtain ⟨c1, c2⟩ := hc k hlt wr (hφ.below hb)
      obtain ⟨d1, d2⟩ := hc2 k hlt wr (hφ.below hb)
      have hi1 : (k : Int) < n := by omega
      have he := str_eq_t (rfl : xs.getD k ByteArray.empty = xs.getD k ByteArray.empty)
      clear hc hc2
      generalize xs.getD k ByteArray.empty = x at *
      go_wp2_with fail
      go_quiet (fail)
      go_wp2
      go_roundw
      case rel => exact ⟨k + 1, by omega, by go_num, bdrewN hb _⟩
      case measure => (simp [intOf] <;> omega)
    · obtain rfl : k = n := by omega
      go_wp2
      go_ret
      exact ⟨rfl, hb⟩
/-- A world of the law's call, and what is frozen beside. -/
structure RxS (w0 : World) (φ ψ : Phi) (w : World) : Prop where
  inv : Inv w0.heap.size w0 φ φ w
  fz : Fz ψ w
section
variable {w0 W w' : World} {φ ψ : Phi} {nn : Nat} {an : Option Addr} {cn : Nat} {l : List Nod} {ns : Nat} {a1 : Option Addr} {c1 : Nat} {stops : List ByteArray} {ne : Nat} {a2 : Option Addr} {c2 : Nat} {ends : List Endg} {nr : Nat} {a3 : Option Addr} {c3 : Nat} {rs : List Rul} {nx : Nat} {a4 : Option Addr} {c4 : Nat} {xs : List Exm}
theorem RxS.callB (h : RxS w0 φ ψ W) (hb : Below W.heap.size W w') : RxS w0 φ ψ w' := ⟨h.inv.callB hb, h.fz.below hb⟩
theorem CheckCoder_R (sN : SlV ψ an cn l) (hnn : Hid (l.length = nn)) (hmn : nn ≤ 9223372036854775807) (sS : SlV ψ a1 c1 stops) (hns : Hid (stops.length = ns)) (hms : ns ≤ 9223372036854775807) (sE : SlV ψ a2 c2 ends) (hne : Hid (ends.length = ne)) (hme : ne ≤ 9223372036854775807) (sR : SlV ψ a3 c3 rs) (hnr : Hid (rs.length = nr)) (hmr : nr ≤ 9223372036854775807) (sX : SlV ψ a4 c4 xs) (hnx : Hid (xs.length = nx)) (hmx : nx ≤ 9223372036854775807) (hgS : Hid (∀ x ∈ stops, StrG x)) (hgE : Hid (∀ x ∈ ends, StrG x.1 ∧ StrG x.2)) (hgR : Hid (∀ x ∈ rs, RulG x)) (hgX : Hid (∀ x ∈ xs, StrG x.1 ∧ IsI64 x.2)) {F : Int} (hF : Hid (cdrF l stops ends rs xs = F)) (h : RxS w0 φ ψ W) : Calls Try.prog 6 #[.agg #[.slice an nn cn, .slice a1 ns c1, .slice a2 ne c2, .slice a3 nr c3, .slice a4 nx c4]] W (fun e w' => e = .returned (.int .i64 F) ∧ Hid (RxS w0 φ ψ w')) :=
  (CheckCoder_any h.fz sN hnn hmn sS hns hms sE hne hme sR hnr hmr sX hnx hmx hgS hgE hgR hgX hF).mono (by rintro e w' ⟨rfl, hb⟩; exact ⟨rfl, Lib.hid (h.callB hb)⟩)
theorem RCheckCoder_R (sN : SlV ψ an cn l) (hnn : Hid (l.length = nn)) (hmn : nn ≤ 9223372036854775807) (sS : SlV ψ a1 c1 stops) (hns : Hid (stops.length = ns)) (hms : ns ≤ 9223372036854775807) (sE : SlV ψ a2 c2 ends) (hne : Hid (ends.length = ne)) (hme : ne ≤ 9223372036854775807) (sR : SlV ψ a3 c3 rs) (hnr : Hid (rs.length = nr)) (hmr : nr ≤ 9223372036854775807) (sX : SlV ψ a4 c4 xs) (hnx : Hid (xs.length = nx)) (hmx : nx ≤ 9223372036854775807) (hgS : Hid (∀ x ∈ stops, StrG x)) (hgE : Hid (∀ x ∈ ends, StrG x.1 ∧ StrG x.2)) (hgR : Hid (∀ x ∈ rs, RulG x)) (hgX : Hid (∀ x ∈ xs, StrG x.1 ∧ IsI64 x.2)) {F : Int} (hF : Hid (cdrF l stops ends rs xs = F)) (h : RxS w0 φ ψ W) : Calls Try.prog 7 #[.agg #[.slice an nn cn, .slice a1 ns c1, .slice a2 ne c2, .slice a3 nr c3, .slice a4 nx c4]] W (fun e w' => e = .returned (.int .i64 F) ∧ Hid (RxS w0 φ ψ w')) :=
  (RCheckCoder_any h.fz sN hnn hmn sS hns hms sE hne hme sR hnr hmr sX hnx hmx hgS hgE hgR hgX hF).mono (by rintro e w' ⟨rfl, hb⟩; exact ⟨rfl, Lib.hid (h.callB hb)⟩)
theorem EqualS_R {n : Nat} {a : Option Addr} {cap : Nat} {a2 : Option Addr} {cap2 : Nat} {ts : List ByteArray} (hs : SlV ψ a cap ts) (hs2 : SlV ψ a2 cap2 ts) (hn : Hid (ts.length = n)) (hm : n ≤ 9223372036854775807) (h : RxS w0 φ ψ W) : Calls Try.prog 8 #[.slice a n cap, .slice a2 n cap2] W (fun e w' => e = .returned (.bool true) ∧ Hid (RxS w0 φ ψ w')) :=
  (EqualS_same n a cap a2 cap2 ts W ψ h.fz hs hs2 hn hm).mono (by rintro e w' ⟨rfl, hb⟩; exact ⟨rfl, Lib.hid (h.callB hb)⟩)
end
set_option maxHeartbeats 2000000 in
theorem words_core
  {nn : Nat} {an : Option Addr} {cn : Nat} {l : List Nod} {ns : Nat} {a1 : Option Addr} {c1 : Nat} {stops : List ByteArray} {ne : Nat} {a2 : Option Addr} {c2 : Nat} {ends : List Endg} {nr : Nat} {a3 : Option Addr} {c3 : Nat} {rs : List Rul} {nx : Nat} {a4 : Option Addr} {c4 : Nat} {xs : List Exm} {w : World} {φ : Phi} (hφ : Fz φ w) (sN : SlV φ an cn l) (hnn : Hid (l.length = nn)) (hmn : nn ≤ 9223372036854775807) (sS : SlV φ a1 c1 stops) (hns : Hid (stops.length = ns)) (hms : ns ≤ 9223372036854775807) (sE : SlV φ a2 c2 ends) (hne : Hid (ends.length = ne)) (hme : ne ≤ 9223372036854775807) (sR : SlV φ a3 c3 rs) (hnr : Hid (rs.length = nr)) (hmr : nr ≤ 9223372036854775807) (sX : SlV φ a4 c4 xs) (hnx : Hid (xs.length = nx)) (hmx : nx ≤ 9223372036854775807) (hgS : Hid (∀ x ∈ stops, StrG x)) (hgE : Hid (∀ x ∈ ends, StrG x.1 ∧ StrG x.2)) (hgR : Hid (∀ x ∈ rs, RulG x)) (hgX : Hid (∀ x ∈ xs, StrG x.1 ∧ IsI64 x.2)) {F : Int} (hF : Hid (cdrF l stops ends rs xs = F))
    (text : ByteArray) (hx : text.size ≤ reachBytes) : Calls Try.prog 3 #[.agg #[.slice an nn cn, .slice a1 ns c1, .slice a2 ne c2, .slice a3 nr c3, .slice a4 nx c4], .string text] w (fun e w' => e = .returned (.bool true) ∧ Below w.heap.size w w') := by
  obtain ⟨φ1, le1, i1, k1⟩ := (Inv.start hφ).frz (.cells #[.slice an nn cn, .slice a1 ns c1, .slice a2 ne c2, .slice a3 nr c3, .slice a4 nx c4] 28)
  have sN1 := sN.mono le1
  have sS1 := sS.mono le1
  have sE1 := sE.mono le1
  have sR1 := sR.mono le1
  have sX1 := sX.mono le1
  obtain ⟨R, hR⟩ : ∃ R, Hid (wrdR F stops ends text = R) := ⟨_, Lib.hid rfl⟩
  go_enter Try.func3, Try.ntmps3
  go_wp2_with fail
  refine (Words_any i1.fz sN1 hnn hmn sS1 hns hms sE1 hne hme sR1 hnr hmr sX1 hnx hmx hgS hgE hgR hgX hF text hx hR).mono ?_
  rintro e w2 ⟨ra, rc, φ2, rfl, hi2, sr2⟩
  have HI2 := Lib.hid (i1.call hi2)
  have hK2 : Hid (φ2 w.heap.size = some (.cells #[.slice an nn cn, .slice a1 ns c1, .slice a2 ne c2, .slice a3 nr c3, .slice a4 nx c4] 28)) := Lib.hid (hi2.le _ _ k1)
  have le2 := le1.trans hi2.le
  obtain ⟨bc, hbc⟩ : ∃ bc, Hid (w.heap.size = bc) := ⟨_, Lib.hid rfl⟩
  rw [hbc.out] at hK2 ⊢
  clear sN1 sS1 sE1 sR1 sX1 i1 k1 le1 hi2
  have p0 : w2.cell? ⟨bc, 0, none⟩ = some (.slice an nn cn) := (HI2.out.fz.blk hK2.out).cell 0
  have p1 : w2.cell? ⟨bc, 1, none⟩ = some (.slice a1 ns c1) := (HI2.out.fz.blk hK2.out).cell 1
  have p2 : w2.cell? ⟨bc, 2, none⟩ = some (.slice a2 ne c2) := (HI2.out.fz.blk hK2.out).cell 2
  have p3 : w2.cell? ⟨bc, 3, none⟩ = some (.slice a3 nr c3) := (HI2.out.fz.blk hK2.out).cell 3
  have p4 : w2.cell? ⟨bc, 4, none⟩ = some (.slice a4 nx c4) := (HI2.out.fz.blk hK2.out).cell 4
  go_wp2_with fail
  refine (RWords_any HI2.out.fz (sN.mono le2) hnn hmn (sS.mono le2) hns hms (sE.mono le2) hne hme (sR.mono le2) hnr hmr (sX.mono le2) hnx hmx hgS hgE hgR hgX hF text hx hR).mono ?_
  rintro e w3 ⟨ra3, rc3, φ3, rfl, hi3, sr3⟩
  have le3 := le2.trans hi3.le
  have sN2 := sN.mono le3
  have sS2 := sS.mono le3
  have sE2 := sE.mono le3
  have sR2 := sR.mono le3
  have sX2 := sX.mono le3
  have sr2' := sr2.mono hi3.le
  have hK : Hid (φ3 bc = some (.cells #[.slice an nn cn, .slice a1 ns c1, .slice a2 ne c2, .slice a3 nr c3, .slice a4 nx c4] 28)) := Lib.hid (hi3.le _ _ hK2.out)
  have hI3 := HI2.out.call hi3
  have hX : Hid (RxS w φ φ3 w3) := Lib.hid ⟨⟨hI3.bel, rfl, hI3.fz.sub le3, φ.le_refl, fun _ _ => rfl⟩, hI3.fz⟩
  obtain ⟨ts, G⟩ := R
  dsimp only at sr2' sr3 ⊢
  have hts := sr3.capn
  have htm := sr3.capm
  obtain ⟨nt, hnt⟩ : ∃ nt, Hid (ts.length = nt) := ⟨_, Lib.hid rfl⟩
  rw [hnt.out] at hts ⊢
  unfold maxLen at htm
  have hnt2 : nt ≤ 9223372036854775807 := by omega
  clear p0 p1 p2 p3 p4 hI3 hi3 le3 sr2 le2
  have p0 : w3.cell? ⟨bc, 0, none⟩ = some (.slice an nn cn) := (hX.out.fz.blk hK.out).cell 0
  have p1 : w3.cell? ⟨bc, 1, none⟩ = some (.slice a1 ns c1) := (hX.out.fz.blk hK.out).cell 1
  have p2 : w3.cell? ⟨bc, 2, none⟩ = some (.slice a2 ne c2) := (hX.out.fz.blk hK.out).cell 2
  have p3 : w3.cell? ⟨bc, 3, none⟩ = some (.slice a3 nr c3) := (hX.out.fz.blk hK.out).cell 3
  have p4 : w3.cell? ⟨bc, 4, none⟩ = some (.slice a4 nx c4) := (hX.out.fz.blk hK.out).cell 4
  have e1 : (F == F) = true := by simp
  have e3 : (G == G) = true := by simp
  have hXd : Hid (RxS w φ φ3 w3.drew) := Lib.hid (hX.out.callB (bdrewN (Below.refl w3.heap.size w3) 1))
  go_wp2
  go_region_held3 (fun w' => w'.cell? ⟨bc, 0, none⟩ = some (.slice an nn cn) ∧ w'.cell? ⟨bc, 1, none⟩ = some (.slice a1 ns c1) ∧ w'.cell? ⟨bc, 2, none⟩ = some (.slice a2 ne c2) ∧ w'.cell? ⟨bc, 3, none⟩ = some (.slice a3 nr c3) ∧ w'.cell? ⟨bc, 4, none⟩ = some (.slice a4 nx c4)) (first | exact ⟨p0, p1, p2, p3, p4⟩ | exact ⟨by assumption, by assumption, by assumption, by assumption, by assumption⟩) (first
    | ((with_reducible refine (CheckCoder_R sN2 hnn hmn sS2 hns hms sE2 hne hme sR2 hnr hmr sX2 hnx hmx hgS hgE hgR hgX hF (Hid.out (by assumption))).mono ?_); rintro e w' ⟨rfl, hY⟩; have z0 : w'.cell? ⟨bc, 0, none⟩ = some (.slice an nn cn) := (hY.out.fz.blk hK.out).cell 0; have z1 : w'.cell? ⟨bc, 1, none⟩ = some (.slice a1 ns c1) := (hY.out.fz.blk hK.out).cell 1; have z2 : w'.cell? ⟨bc, 2, none⟩ = some (.slice a2 ne c2) := (hY.out.fz.blk hK.out).cell 2; have z3 : w'.cell? ⟨bc, 3, none⟩ = some (.slice a3 nr c3) := (hY.out.fz.blk hK.out).cell 3; have z4 : w'.cell? ⟨bc, 4, none⟩ = some (.slice a4 nx c4) := (hY.out.fz.blk hK.out).cell 4)
    | ((with_reducible refine (RCheckCoder_R sN2 hnn hmn sS2 hns hms sE2 hne hme sR2 hnr hmr sX2 hnx hmx hgS hgE hgR hgX hF (Hid.out (by assumption))).mono ?_); rintro e w' ⟨rfl, hY⟩; have z0 : w'.cell? ⟨bc, 0, none⟩ = some (.slice an nn cn) := (hY.out.fz.blk hK.out).cell 0; have z1 : w'.cell? ⟨bc, 1, none⟩ = some (.slice a1 ns c1) := (hY.out.fz.blk hK.out).cell 1; have z2 : w'.cell? ⟨bc, 2, none⟩ = some (.slice a2 ne c2) := (hY.out.fz.blk hK.out).cell 2; have z3 : w'.cell? ⟨bc, 3, none⟩ = some (.slice a3 nr c3) := (hY.out.fz.blk hK.out).cell 3; have z4 : w'.cell? ⟨bc, 4, none⟩ = some (.slice a4 nx c4) := (hY.out.fz.blk hK.out).cell 4)
    | ((with_reducible refine (EqualS_R sr2' sr3 hnt hnt2 (Hid.out (by assumption))).mono ?_); rintro e w' ⟨rfl, hY⟩; have z0 : w'.cell? ⟨bc, 0, none⟩ = some (.slice an nn cn) := (hY.out.fz.blk hK.out).cell 0; have z1 : w'.cell? ⟨bc, 1, none⟩ = some (.slice a1 ns c1) := (hY.out.fz.blk hK.out).cell 1; have z2 : w'.cell? ⟨bc, 2, none⟩ = some (.slice a2 ne c2) := (hY.out.fz.blk hK.out).cell 2; have z3 : w'.cell? ⟨bc, 3, none⟩ = some (.slice a3 nr c3) := (hY.out.fz.blk hK.out).cell 3; have z4 : w'.cell? ⟨bc, 4, none⟩ = some (.slice a4 nx c4) := (hY.out.fz.blk hK.out).cell 4))
  rename World => W9
  have hX9 : Hid (RxS w φ φ3 W9) := by assumption
  go_wp2
  go_ret
  exact ⟨rfl, hX9.out.inv.bel⟩
abbrev Codr := List Nod × List ByteArray × List Endg × List Rul × List Exm
def CodrG (x : Codr) : Prop := (x.1.length * Try.prog.bytesOf 68 ≤ reachBytes ∧ ∀ y ∈ x.1, IsI64 y.1 ∧ IsI64 y.2.1 ∧ StrG y.2.2) ∧ (x.2.1.length * Try.prog.bytesOf 9 ≤ reachBytes ∧ ∀ y ∈ x.2.1, StrG y) ∧ (x.2.2.1.length * Try.prog.bytesOf 45 ≤ reachBytes ∧ ∀ y ∈ x.2.2.1, StrG y.1 ∧ StrG y.2) ∧
  (x.2.2.2.1.length * Try.prog.bytesOf 48 ≤ reachBytes ∧ ∀ y ∈ x.2.2.2.1, (y.1.length * Try.prog.bytesOf 9 ≤ reachBytes ∧ ∀ z ∈ y.1, StrG z) ∧ (y.2.1.length * Try.prog.bytesOf 9 ≤ reachBytes ∧ ∀ z ∈ y.2.1, StrG z) ∧ IsI64 y.2.2) ∧ (x.2.2.2.2.length * Try.prog.bytesOf 51 ≤ reachBytes ∧ ∀ y ∈ x.2.2.2.2, StrG y.1 ∧ IsI64 y.2)
theorem bytesS : Try.prog.bytesOf 9 = 16 := by kernel_rfl
theorem rStrs (H : Type) (enc : TypeId × Value → H) (W : World) : Reads enc Try.prog W 23 (List ByteArray) (fun xs => xs.length * Try.prog.bytesOf 9 ≤ reachBytes ∧ ∀ x ∈ xs, StrG x) := Reads.slice Try.underlying23 (by kernel_rfl) (by decide) (rStr H enc W)
theorem rCoder (H : Type) (enc : TypeId × Value → H) (W : World) : Reads enc Try.prog W 28 Codr CodrG :=
  Reads.struct5 (s1 := 1) (s2 := 1) (s3 := 1) (s4 := 1) (s5 := 1) Try.underlying28 (by kernel_rfl) (by kernel_rfl) (by kernel_rfl) (by kernel_rfl) (by kernel_rfl) (by kernel_rfl) (by kernel_rfl) (by kernel_rfl) (by kernel_rfl) (by kernel_rfl) (by kernel_rfl)
    (Reads.slice Try.underlying22 (by kernel_rfl) (by decide) (Reads.struct3 (s1 := 1) (s2 := 1) (s3 := 1) Try.underlying68 (by kernel_rfl) (by kernel_rfl) (by kernel_rfl) (by kernel_rfl) (by kernel_rfl) (by kernel_rfl) (by kernel_rfl) (rInt H enc W) (rInt H enc W) (rStr H enc W)))
    (rStrs H enc W)
    (Reads.slice Try.underlying24 (by kernel_rfl) (by decide) (Reads.struct2 (s1 := 1) (s2 := 1) Try.underlying45 (by kernel_rfl) (by kernel_rfl) (by kernel_rfl) (by kernel_rfl) (by kernel_rfl) (rStr H enc W) (rStr H enc W)))
    (Reads.slice Try.underlying25 (by kernel_rfl) (by decide) (Reads.struct3 (s1 := 1) (s2 := 1) (s3 := 1) Try.underlying48 (by kernel_rfl) (by kernel_rfl) (by kernel_rfl) (by kernel_rfl) (by kernel_rfl) (by kernel_rfl) (by kernel_rfl) (rStrs H enc W) (rStrs H enc W) (rInt H enc W)))
    (Reads.slice Try.underlying26 (by kernel_rfl) (by decide) (Reads.struct2 (s1 := 1) (s2 := 1) Try.underlying51 (by kernel_rfl) (by kernel_rfl) (by kernel_rfl) (by kernel_rfl) (by kernel_rfl) (rStr H enc W) (rInt H enc W)))
theorem SlV.le9 {α : Type} [Rep α] {φ : Phi} {a : Option Addr} {c : Nat} {xs : List α} (s : SlV φ a c xs) : xs.length ≤ 9223372036854775807 := by
  have := s.capn; have := s.capm; unfold maxLen at this; omega
theorem codeWordsMatchSpec_walk (w : World) (φ : Phi) (hφ : Fz φ w) (cs : Array Value) (x : Codr) (hx : Rep.rep φ x cs.toList) (g : CodrG x) (text : ByteArray) (ht : StrG text) :
    Calls Try.prog 3 #[.agg cs, .string text] w fun e w' => e = .returned (.bool true) ∧ Below w.heap.size w w' := by
  obtain ⟨c0, d0, hcd, ⟨a0, p0, rfl, s0⟩, c1, d1, rfl, ⟨a1, p1, rfl, s1⟩, c2, d2, rfl, ⟨a2, p2, rfl, s2⟩, c3, d3, rfl, ⟨a3, p3, rfl, s3⟩, ⟨a4, p4, rfl, s4⟩⟩ := hx
  have e : cs = #[.slice a0 x.1.length p0, .slice a1 x.2.1.length p1, .slice a2 x.2.2.1.length p2, .slice a3 x.2.2.2.1.length p3, .slice a4 x.2.2.2.2.length p4] := by apply Array.toList_inj.1; rw [hcd]; rfl
  rw [e]
  exact words_core hφ s0 (Lib.hid rfl) s0.le9 s1 (Lib.hid rfl) s1.le9 s2 (Lib.hid rfl) s2.le9 s3 (Lib.hid rfl) s3.le9 s4 (Lib.hid rfl) s4.le9 (Lib.hid g.2.1.2) (Lib.hid g.2.2.1.2) (Lib.hid (fun y hy => by have := g.2.2.2.1.2 y hy; rw [bytesS] at this; exact this)) (Lib.hid g.2.2.2.2.2) (Lib.hid rfl) text ht
end Go.Proofs.Ytapkkplndhbapaa
