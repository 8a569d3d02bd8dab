/- The walks of CheckCoder, asked and Words. Conditions: none beyond what the claim form gives. -/
import Derived.Test.YtapkkplndhbapaaW10
namespace Go.Proofs.Ytapkkplndhbapaa
open Go.RowKit
set_option linter.unusedVariables false
section
variable {w wA w' : World} {φ : Phi} {nn : Nat} {an : Option Addr} {cn : Nat} {l : List Nod} {ns : Nat} {a1 : Option Addr} {c1 : Nat} {stops : List ByteArray} {ne : Nat} {a2 : Option Addr} {c2 : Nat} {ends : List Endg} {nr : Nat} {a3 : Option Addr} {c3 : Nat} {nx : Nat} {a4 : Option Addr} {c4 : Nat} {xs : List Exm} {bm : Nat}
theorem MchOk.up (hi : Inv w.heap.size w φ φ wA) (h : MchOk wA φ nn an cn l ns a1 c1 stops ne a2 c2 ends nr a3 c3 nx a4 c4 xs bm w') : MchOk w φ nn an cn l ns a1 c1 stops ne a2 c2 ends nr a3 c3 nx a4 c4 xs bm w' := by
  obtain ⟨w2, φ1, φ2, bt, m1, m2, ta, tc, hs, r, hd, h1, h2⟩ := h.ex
  exact ⟨h.ok, h.le, w2, φ1, φ2, bt, m1, m2, ta, tc, hs, r, hd, hi.call h1, h2⟩
/-- words, of a machine. -/
theorem MchOk.words (h : MchOk w φ nn an cn l ns a1 c1 stops ne a2 c2 ends nr a3 c3 nx a4 c4 xs bm w') (sS : SlV φ a1 c1 stops) (hns : Hid (stops.length = ns)) (sE : SlV φ a2 c2 ends) (hne : Hid (ends.length = ne)) (hgE : Hid (∀ x ∈ ends, StrG x.1 ∧ StrG x.2)) (text : ByteArray) (hx : text.size ≤ 1000) {t : List ByteArray} (ht : Hid (wordsF stops ends text = t)) :
    Calls Try.prog 10 #[.pointer (some ⟨bm, 0, none⟩), .string text] w' (fun e w'' => ∃ a cap φ', e = .returned (.slice a t.length cap) ∧ Inv w.heap.size w φ φ' w'' ∧ SlV φ' a cap t) := by
  obtain ⟨w2, φ1, φ2, bt, m1, m2, ta, tc, hs, r, hd, h1, h2, h3⟩ := h.ex
  have le := h1.le.trans h3.inv.le
  have hl := h.le
  refine (words_any h3.inv.fz (Lib.hid h3.blk) (Lib.hid rfl) (sS.mono le) hns (by omega) (Lib.hid rfl) (sE.mono le) hne (by omega) hgE text hx ht).mono ?_
  rintro e w'' ⟨a, cap, φ', rfl, hi, s⟩
  exact ⟨a, cap, φ', rfl, (h1.call h3.inv).call hi, s⟩
theorem MchOk.bel (h : MchOk w φ nn an cn l ns a1 c1 stops ne a2 c2 ends nr a3 c3 nx a4 c4 xs bm w') : Below w.heap.size w w' := by
  obtain ⟨w2, φ1, φ2, bt, m1, m2, ta, tc, hs, r, hd, h1, h2, h3⟩ := h.ex
  exact (h1.call h3.inv).bel
end
theorem CheckCoder_any
  {nn : Nat} {an : Option Addr} {cn : Nat} {l : List Nod} {ns : Nat} {a1 : Option Addr} {c1 : Nat} {stops : List ByteArray} {ne : Nat} {a2 : Option Addr} {c2 : Nat} {ends : List Endg} {nr : Nat} {a3 : Option Addr} {c3 : Nat} {rs : List Rul} {nx : Nat} {a4 : Option Addr} {c4 : Nat} {xs : List Exm} {w : World} {φ : Phi} (hφ : Fz φ w) (sN : SlV φ an cn l) (hnn : Hid (l.length = nn)) (hmn : nn ≤ 9223372036854775807) (sS : SlV φ a1 c1 stops) (hns : Hid (stops.length = ns)) (hms : ns ≤ 9223372036854775807) (sE : SlV φ a2 c2 ends) (hne : Hid (ends.length = ne)) (hme : ne ≤ 9223372036854775807) (sR : SlV φ a3 c3 rs) (hnr : Hid (rs.length = nr)) (hmr : nr ≤ 9223372036854775807) (sX : SlV φ a4 c4 xs) (hnx : Hid (xs.length = nx)) (hmx : nx ≤ 9223372036854775807) (hgS : Hid (∀ x ∈ stops, StrG x)) (hgE : Hid (∀ x ∈ ends, StrG x.1 ∧ StrG x.2)) (hgR : Hid (∀ x ∈ rs, RulG x)) (hgX : Hid (∀ x ∈ xs, StrG x.1 ∧ IsI64 x.2)) {F : Int} (hF : Hid (cdrF l stops ends rs xs = F))
    : Calls Try.prog 6 #[.agg #[.slice an nn cn, .slice a1 ns c1, .slice a2 ne c2, .slice a3 nr c3, .slice a4 nx c4]] w (fun e w' => e = .returned (.int .i64 F) ∧ Below w.heap.size w w') := by
  have hX := Lib.hid ((Inv.start hφ).alloc (.cells #[.slice an nn cn, .slice a1 ns c1, .slice a2 ne c2, .slice a3 nr c3, .slice a4 nx c4] 28))
  go_enter Try.func6, Try.ntmps6
  go_wp2_with fail
  refine (machineOf_any
    hX.out.fz sN hnn hmn sS hns hms sE hne hme sR hnr hmr sX hnx hmx hgS hgE hgR hgX hF
    ).mono ?_
  rintro e w2 ⟨hb, ⟨h0, rfl⟩ | ⟨h0, bm, rfl, hM⟩⟩
  · have HB := Lib.hid hb
    clear hb h0
    go_wp2
    go_ret
    exact ⟨rfl, hX.out.bel.trans (HB.out.mono hX.out.size)⟩
  · have HB := Lib.hid hb
    have H0 := Lib.hid h0
    clear hb h0 hM
    go_wp2
    go_ret
    exact ⟨ret_int H0.out.symm, hX.out.bel.trans (HB.out.mono hX.out.size)⟩
def askF (F : Int) (text : ByteArray) : Int := if F ≠ 0 then F else if 1000 < text.size then 2 else 0
set_option maxHeartbeats 1000000 in
theorem asked_any
  {nn : Nat} {an : Option Addr} {cn : Nat} {l : List Nod} {ns : Nat} {a1 : Option Addr} {c1 : Nat} {stops : List ByteArray} {ne : Nat} {a2 : Option Addr} {c2 : Nat} {ends : List Endg} {nr : Nat} {a3 : Option Addr} {c3 : Nat} {rs : List Rul} {nx : Nat} {a4 : Option Addr} {c4 : Nat} {xs : List Exm} {w : World} {φ : Phi} (hφ : Fz φ w) (sN : SlV φ an cn l) (hnn : Hid (l.length = nn)) (hmn : nn ≤ 9223372036854775807) (sS : SlV φ a1 c1 stops) (hns : Hid (stops.length = ns)) (hms : ns ≤ 9223372036854775807) (sE : SlV φ a2 c2 ends) (hne : Hid (ends.length = ne)) (hme : ne ≤ 9223372036854775807) (sR : SlV φ a3 c3 rs) (hnr : Hid (rs.length = nr)) (hmr : nr ≤ 9223372036854775807) (sX : SlV φ a4 c4 xs) (hnx : Hid (xs.length = nx)) (hmx : nx ≤ 9223372036854775807) (hgS : Hid (∀ x ∈ stops, StrG x)) (hgE : Hid (∀ x ∈ ends, StrG x.1 ∧ StrG x.2)) (hgR : Hid (∀ x ∈ rs, RulG x)) (hgX : Hid (∀ x ∈ xs, StrG x.1 ∧ IsI64 x.2)) {F : Int} (hF : Hid (cdrF l stops ends rs xs = F))
    (text : ByteArray) (hx : text.size ≤ reachBytes) : Calls Try.prog 9 #[.agg #[.slice an nn cn, .slice a1 ns c1, .slice a2 ne c2, .slice a3 nr c3, .slice a4 nx c4], .string text] w (fun e w' => Below w.heap.size w w' ∧ ((askF F text ≠ 0 ∧ e = .returned (.tuple #[.pointer none, .int .i64 (askF F text)])) ∨ (askF F text = 0 ∧ ∃ bm, e = .returned (.tuple #[.pointer (some ⟨bm, 0, none⟩), .int .i64 0]) ∧ MchOk w φ nn an cn l ns a1 c1 stops ne a2 c2 ends nr a3 c3 nx a4 c4 xs bm w'))) := by
  have hX := Lib.hid ((Inv.start hφ).alloc (.cells #[.slice an nn cn, .slice a1 ns c1, .slice a2 ne c2, .slice a3 nr c3, .slice a4 nx c4] 28))
  unfold reachBytes at hx
  go_enter Try.func9, Try.ntmps9
  go_wp2_with fail
  refine (machineOf_any
    hX.out.fz sN hnn hmn sS hns hms sE hne hme sR hnr hmr sX hnx hmx hgS hgE hgR hgX hF
    ).mono ?_
  rintro e w2 ⟨hb, ⟨h0, rfl⟩ | ⟨h0, bm, rfl, hM⟩⟩
  · have hg : ((F : Int) != 0) = true := by simp [h0]
    have HB := Lib.hid hb
    have H0 := Lib.hid h0
    clear hb h0
    go_wp2
    go_ret2
    have e : askF F text = F := by rw [askF, if_pos H0.out]
    exact ⟨hX.out.bel.trans (HB.out.mono hX.out.size), .inl ⟨by rw [e]; exact H0.out, by rw [e]; rfl⟩⟩
  · have HM := Lib.hid (MchOk.up hX.out hM)
    have H0 := Lib.hid h0
    clear hb h0 hM
    by_cases hz : 1000 < text.size
    · go_wp2
      go_ret2
      have e : askF F text = 2 := by rw [askF, if_neg (by rw [H0.out]; simp), if_pos hz]
      exact ⟨HM.out.bel, .inl ⟨by rw [e]; decide, by rw [e]; rfl⟩⟩
    · go_wp2
      go_ret2
      have e : askF F text = 0 := by rw [askF, if_neg (by rw [H0.out]; simp), if_neg hz]
      exact ⟨HM.out.bel, .inr ⟨e, bm, rfl, HM.out⟩⟩
def wrdR (F : Int) (stops : List ByteArray) (ends : List Endg) (text : ByteArray) : List ByteArray × Int := if askF F text ≠ 0 then ([], askF F text) else (wordsF stops ends text, 0)
set_option maxHeartbeats 1000000 in
theorem Words_any
  {nn : Nat} {an : Option Addr} {cn : Nat} {l : List Nod} {ns : Nat} {a1 : Option Addr} {c1 : Nat} {stops : List ByteArray} {ne : Nat} {a2 : Option Addr} {c2 : Nat} {ends : List Endg} {nr : Nat} {a3 : Option Addr} {c3 : Nat} {rs : List Rul} {nx : Nat} {a4 : Option Addr} {c4 : Nat} {xs : List Exm} {w : World} {φ : Phi} (hφ : Fz φ w) (sN : SlV φ an cn l) (hnn : Hid (l.length = nn)) (hmn : nn ≤ 9223372036854775807) (sS : SlV φ a1 c1 stops) (hns : Hid (stops.length = ns)) (hms : ns ≤ 9223372036854775807) (sE : SlV φ a2 c2 ends) (hne : Hid (ends.length = ne)) (hme : ne ≤ 9223372036854775807) (sR : SlV φ a3 c3 rs) (hnr : Hid (rs.length = nr)) (hmr : nr ≤ 9223372036854775807) (sX : SlV φ a4 c4 xs) (hnx : Hid (xs.length = nx)) (hmx : nx ≤ 9223372036854775807) (hgS : Hid (∀ x ∈ stops, StrG x)) (hgE : Hid (∀ x ∈ ends, StrG x.1 ∧ StrG x.2)) (hgR : Hid (∀ x ∈ rs, RulG x)) (hgX : Hid (∀ x ∈ xs, StrG x.1 ∧ IsI64 x.2)) {F : Int} (hF : Hid (cdrF l stops ends rs xs = F))
    (text : ByteArray) (hx : text.size ≤ reachBytes) {R : List ByteArray × Int} (hR : Hid (wrdR F stops ends text = R)) : Calls Try.prog 4 #[.agg #[.slice an nn cn, .slice a1 ns c1, .slice a2 ne c2, .slice a3 nr c3, .slice a4 nx c4], .string text] w (SlPost R φ w) := by
  have hX := Lib.hid ((Inv.start hφ).alloc (.cells #[.slice an nn cn, .slice a1 ns c1, .slice a2 ne c2, .slice a3 nr c3, .slice a4 nx c4] 28))
  go_enter Try.func4, Try.ntmps4
  go_wp2_with fail
  refine (asked_any
    hX.out.fz sN hnn hmn sS hns hms sE hne hme sR hnr hmr sX hnx hmx hgS hgE hgR hgX hF
    text hx).mono ?_
  obtain ⟨G, hG⟩ : ∃ G, Hid (askF F text = G) := ⟨_, Lib.hid rfl⟩
  rw [hG.out]
  rintro e w2 ⟨hb, ⟨h0, rfl⟩ | ⟨h0, bm, rfl, hM⟩⟩
  · have hg : ((G : Int) != 0) = true := by simp [h0]
    have HB := Lib.hid hb
    have H0 := Lib.hid h0
    clear hb h0
    go_wp2
    go_ret2
    have e : R = ([], G) := by rw [← hR.out, wrdR, hG.out, if_pos H0.out]
    exact ⟨none, 0, φ, by rw [e]; rfl, hX.out.callB HB.out, by rw [e]; exact SlV.empty _⟩
  · have HM := Lib.hid (MchOk.up hX.out hM)
    have H0 := Lib.hid h0
    have hz : Hid (text.size ≤ 1000) := Lib.hid (by
      have := hG.out
      rw [h0, askF] at this
      split at this
      · next q => exact absurd this q
      · split at this
        · cases this
        · omega)
    clear hb h0 hM
    obtain ⟨t, ht⟩ : ∃ t, Hid (wordsF stops ends text = t) := ⟨_, Lib.hid rfl⟩
    go_wp2_with (go_at_call 10; refine (HM.out.words sS hns sE hne hgE text hz.out ht).mono ?_; rintro e w3 ⟨a, cap, φ', rfl, hi, s⟩; have HI := Lib.hid hi; have HS := Lib.hid s; clear hi s)
    go_ret2
    have e : R = (t, 0) := by rw [← hR.out, wrdR, hG.out, if_neg (by rw [H0.out]; simp), ht.out]
    exact ⟨a, cap, φ', by rw [e]; rfl, HI.out, by rw [e]; exact HS.out⟩
end Go.Proofs.Ytapkkplndhbapaa
