/- The walk of Clash, from a contract of needed. Conditions: NeedC, needed's contract (a premise of the theorem, to be proved as needed_any). -/
import Derived.Test.YtambgcijceecpaaDoorE25
namespace Go.Proofs.YtambgcijceecpaaDoor
open Go.RowKit
set_option linter.unusedVariables false
def NeedPost (l : List Int) (φ : Phi) (w : World) (e : Ending) (w' : World) : Prop := ∃ φ' a cap, e = .returned (.slice a l.length cap) ∧ Inv w.heap.size w φ φ' w' ∧ SlV φ' a cap l
/-- needed's contract. -/
def NeedC : Prop := ∀
  {φ : Phi} {br : Nat} {fs : List Fld} {es : List Edt} {n m : Nat} {a : Option Addr} {cap : Nat} {ae : Option Addr} {ce : Nat} {ab : Option Addr} {cb : Nat} (R : RulV φ br fs es n m a cap ae ce ab cb)
  (w : World), Fz φ w → ∀ {l : List Int}, Hid (keptL fs es n m m = l) → Calls Tryd.prog 41 #[.pointer (some ⟨br, 0, none⟩)] w (NeedPost l φ w)
theorem Clash_of (NC : NeedC)
  (n : Nat) (a : Option Addr) (cap : Nat) (fs : List Fld) (m : Nat) (ae : Option Addr) (ce : Nat) (es : List Edt) (w : World) (φ : Phi) (hφ : Fz φ w) (s : SlV φ a cap fs) (hn : Hid (fs.length = n)) (hm : n ≤ 9223372036854775807) (hg : Hid (∀ x ∈ fs, FldG x)) (se : SlV φ ae ce es) (hne : Hid (es.length = m)) (hme : m ≤ 9223372036854775807) (hge : Hid (∀ x ∈ es, EdtG x))
    {F : Int} (hF : Hid (planF fs es = F)) {l : List Int} {o : Bool} (hl : Hid (clashR fs es F = (l, o))) :
    Calls Tryd.prog 18 #[.agg #[.slice a n cap, .slice ae m ce]] w (ClashPost l o F φ w) := by
  have hi0 := Lib.hid ((Inv.start hφ).alloc (.cells #[.slice a n cap, .slice ae m ce] 25))
  go_enter Tryd.func18, Tryd.ntmps18
  go_wp2_with fail
  refine (rulesOf_any n a cap fs m ae ce es _ φ (hφ.alloc _) s hn hm hg se hne hme hge).mono ?_
  rintro e w1 ⟨φ1, hi1, ⟨hp, rfl⟩ | ⟨hp, br, rfl, hR⟩⟩
  · have HI := Lib.hid (hi0.out.call hi1)
    rw [hF.out] at hp ⊢
    have hpp : (F != 0) = true := by simp [hp]
    have h := hl.out
    rw [clashR, if_neg hp] at h
    have HH := Lib.hid h
    clear hi1 hi0 hp h
    go_wp2
    go_ret3
    obtain ⟨rfl, rfl⟩ := Prod.mk.inj HH.out
    exact ⟨φ1, none, 0, rfl, HI.out, SlV.empty _⟩
  · have HI := Lib.hid (hi0.out.call hi1)
    obtain ⟨a', cap', ae', ce', ab', cb', hV⟩ := hR.open_ hp rfl rfl
    have h := hl.out
    rw [← hF.out, hp] at h
    rw [clashR, if_pos rfl] at h
    have hF0 : F = 0 := by rw [← hF.out, hp]
    subst hF0
    obtain ⟨q, hq⟩ : ∃ q, Hid (posB fs es fs.length es.length (List.replicate es.length true) = q) := ⟨_, Lib.hid rfl⟩
    rw [hq.out] at h
    have HH := Lib.hid h
    have hq2 : Hid ((allR fs fs.length).any (fun x => passB fs es x fs.length es.length) = q) := Lib.hid (pass_all.trans hq.out)
    clear hi1 hi0 hp h
    cases q with
    | true =>
      go_wp2_with (go_at_call 44; refine (allPass_any hV w1 HI.out.fz hq2).mono ?_; rintro e w2 ⟨rfl, hb⟩)
      go_ret3
      have h := HH.out
      rw [if_pos (by first | trivial | rfl)] at h
      obtain ⟨rfl, rfl⟩ := Prod.mk.inj h
      exact ⟨φ1, none, 0, rfl, HI.out.callB hb, SlV.empty _⟩
    | false =>
      have h := HH.out
      rw [if_neg (by simp)] at h
      obtain ⟨h1, rfl⟩ := Prod.mk.inj h
      have H1 := Lib.hid h1
      clear h h1
      go_wp2_with (first
        | (go_at_call 44; refine (allPass_any hV w1 HI.out.fz hq2).mono ?_; rintro e w2 ⟨rfl, hb⟩; have HI2 := Lib.hid (HI.out.callB hb); clear hb)
        | (go_at_call 41; refine (NC hV w2 HI2.out.fz H1).mono ?_; rintro e w3 ⟨φ3, a3, c3, rfl, hi3, hs3⟩))
      go_ret3
      exact ⟨φ3, a3, c3, rfl, HI2.out.call hi3, hs3⟩
set_option maxHeartbeats 1000000 in
theorem Redundant_of (NC : NeedC)
  (n : Nat) (a : Option Addr) (cap : Nat) (fs : List Fld) (m : Nat) (ae : Option Addr) (ce : Nat) (es : List Edt) (w : World) (φ : Phi) (hφ : Fz φ w) (s : SlV φ a cap fs) (hn : Hid (fs.length = n)) (hm : n ≤ 9223372036854775807) (hg : Hid (∀ x ∈ fs, FldG x)) (se : SlV φ ae ce es) (hne : Hid (es.length = m)) (hme : m ≤ 9223372036854775807) (hge : Hid (∀ x ∈ es, EdtG x))
    {F : Int} (hF : Hid (planF fs es = F)) {l : List Int} (hl : Hid (redR fs es F = l)) :
    Calls Tryd.prog 16 #[.agg #[.slice a n cap, .slice ae m ce]] w (SlFPost l F φ w) := by
  have hi0 := Lib.hid ((Inv.start hφ).alloc (.cells #[.slice a n cap, .slice ae m ce] 25))
  go_enter Tryd.func16, Tryd.ntmps16
  go_wp2_with fail
  refine (rulesOf_any n a cap fs m ae ce es _ φ (hφ.alloc _) s hn hm hg se hne hme hge).mono ?_
  rintro e w1 ⟨φ1, hi1, ⟨hp, rfl⟩ | ⟨hp, br, rfl, hR⟩⟩
  · have HI := Lib.hid (hi0.out.call hi1)
    rw [hF.out] at hp ⊢
    have hpp : (F != 0) = true := by simp [hp]
    have h := hl.out
    rw [redR, if_neg hp] at h
    have HH := Lib.hid h
    clear hi1 hi0 hp h
    go_wp2
    go_ret2
    obtain rfl := HH.out
    exact ⟨φ1, none, 0, rfl, HI.out, SlV.empty _⟩
  · have HI := Lib.hid (hi0.out.call hi1)
    obtain ⟨a', cap', ae', ce', ab', cb', hV⟩ := hR.open_ hp rfl rfl
    have h := hl.out
    rw [← hF.out, hp] at h
    rw [redR, if_pos rfl] at h
    have hF0 : F = 0 := by rw [← hF.out, hp]
    subst hF0
    have HH := Lib.hid h
    obtain ⟨kl, hkl⟩ : ∃ l, Hid (keptL fs es fs.length es.length es.length = l) := ⟨_, Lib.hid rfl⟩
    have hm60 := hV.ok.cnt
    clear hi1 hi0 hp h hl
    obtain ⟨M, hM⟩ : ∃ k, k = es.length := ⟨_, rfl⟩
    rw [← hM] at hV hkl HH hm60
    clear hM
    go_wp2_with (go_at_call 41; refine (NC hV w1 HI.out.fz hkl).mono ?_; rintro e w3 ⟨φ3, a3, c3, rfl, hi3, hs3⟩; have HI3 := Lib.hid (HI.out.call hi3); have hV3 := hV.mono hi3.le; have r2 : w3.cell? ⟨br, 2, none⟩ = some (.slice ab' M cb') := (hV3.blk HI3.out.fz).cell 2; clear hi3)
    have hmem : Hid (∀ i : Nat, i < M → decide ((i : Int) ∈ kl) = needB fs es fs.length M (leftK fs es fs.length M i) i) := Lib.hid (fun i hi => by
      rw [← hkl.out, Bool.eq_iff_iff, decide_eq_true_iff, mem_keptL]
      exact ⟨fun h => h.2, fun h => ⟨hi, h⟩⟩)
    obtain ⟨nk, hnk⟩ : ∃ k, Hid (kl.length = k) := ⟨_, Lib.hid rfl⟩
    rw [hnk.out]
    have hkc := hs3.capn
    have hkm := hs3.capm
    rw [hnk.out] at hkc
    unfold maxLen at hkm
    have HS := Lib.hid (And.intro HI3.out.toSelf (Own.nil w.heap.size φ3 w3 3 : Own w.heap.size φ3 w3 3 none 0 (dropL fs es fs.length M 0)))
    have HLE := Lib.hid HI3.out.le
    have HNW := Lib.hid HI3.out.new
    clear r2 HI3
    go_loopw [7, 24] (fun v ix wr => ∃ (k : Nat) (ao : Option Addr) (co : Nat), k ≤ M ∧ v = .slice ao (dropL fs es fs.length M k).length co ∧ ix = .int .i64 k ∧ Hid (Inv w.heap.size w φ3 φ3 wr ∧ Own w.heap.size φ3 wr 3 ao co (dropL fs es fs.length M k))) (fun _ i _ => M - (intOf i).toNat)
    case atStart => exact ⟨0, none, 0, Nat.zero_le _, rfl, rfl, HS⟩
    case round =>
      clear HS
      obtain ⟨k, ao, co, hk, rfl, rfl, hS⟩ := hrel
      by_cases hlt : k < M
      · obtain ⟨b, hb⟩ : ∃ b, needB fs es fs.length M (leftK fs es fs.length M k) k = b := ⟨_, rfl⟩
        have hdl := Lib.hid (dropL_len (fs := fs) (es := es) (n := fs.length) (m := M) (k := k))
        have hc : decide ((k : Int) ∈ kl) = b := (hmem.out k hlt).trans hb
        have HC := Lib.hid hc
        cases b with
        | true =>
          have h2 := Lib.hid (dropL_f hb)
          clear hb hc
          go_wp2_with (go_at_call 42; refine (Contains_q nk a3 c3 kl _ _ φ3 hS.out.1.fz hs3 hnk (by omega) HC.out).mono ?_; rintro e w5 ⟨rfl, rfl⟩)
          go_roundw
          case rel => exact ⟨k + 1, ao, co, by omega, by rw [h2.out], by go_num, by rw [h2.out]; exact hS⟩
          case measure => simp [intOf]; omega
        | false =>
          have h2 := Lib.hid (dropL_t hb)
          have hin := Lib.hid hS.out.1
          have hon := Lib.hid hS.out.2
          clear hb hc
          go_wp2_with (first
            | (go_at_call 42; refine (Contains_q nk a3 c3 kl _ _ φ3 hS.out.1.fz hs3 hnk (by omega) HC.out).mono ?_; rintro e w5 ⟨rfl, rfl⟩)
            | (at_builtin; (refine wpList_app1F (α := Int) rfl _ _ 26 rfl slI hin.out ao co _ hon.out _ _ (k : Int) rfl rfl 1 rfl (by have := hdl.out; omega) ?_; intro a8 c8 w8 hi8 ho8 hg8 hf8)))
          go_roundw
          case rel => exact ⟨k + 1, a8, c8, by omega, by rw [h2.out, List.length_append]; rfl, by go_num, by rw [h2.out]; exact Lib.hid ⟨hi8, ho8⟩⟩
          case measure => simp [intOf]; omega
      · obtain rfl : k = M := by omega
        obtain ⟨φ', l', i', s', _⟩ := hS.out.2.release hS.out.1
        have h := HH.out
        go_wp2
        go_ret2
        subst h
        exact ⟨φ', ao, co, rfl, i'.cat' HLE.out HNW.out, s'⟩
end Go.Proofs.YtambgcijceecpaaDoor
