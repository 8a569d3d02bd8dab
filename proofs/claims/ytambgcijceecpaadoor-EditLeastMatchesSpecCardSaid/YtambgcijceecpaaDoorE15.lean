/- The walk of all, once for each closure; the walks of the closure of least, and of least. Conditions: none beyond what the claim form gives. -/
import Derived.Test.YtambgcijceecpaaDoorE14
namespace Go.Proofs.YtambgcijceecpaaDoor
open Go.RowKit
set_option linter.unusedVariables false

def onB (n k : Nat) : List Bool := (List.range n).map (fun i : Nat => decide (i < k))
theorem onB_len (n k : Nat) : (onB n k).length = n := by unfold onB; simp
theorem onB_nil (n : Nat) : onB n 0 = List.replicate n false := by
  unfold onB; apply List.ext_getElem
  · simp
  · intro i h1 h2; simp
theorem onB_all (n : Nat) : onB n n = List.replicate n true := by
  unfold onB; apply List.ext_getElem
  · simp
  · intro i h1 h2; simp at h1; simp [h1]
theorem onB_step {n k : Nat} : (onB n k).set k true = onB n (k + 1) := by
  apply List.ext_getElem
  · rw [List.length_set, onB_len, onB_len]
  · intro i h1 h2
    rw [List.getElem_set]
    simp only [onB, List.getElem_map, List.getElem_range]
    by_cases e : k = i
    · subst e; simp
    · rw [if_neg e, decide_eq_decide]; omega
def AllPost {σ : Type} (J : Nat → Phi → σ → World → Prop) (φ : Phi) (q : σ × Bool) (e : Ending) (w' : World) : Prop :=
  e = .returned (.bool q.2) ∧ ∃ g φ2, φ.le φ2 ∧ J g φ2 q.1 w'
set_option maxRecDepth 100000 in
set_option maxHeartbeats 1000000 in
theorem all_least
  {φ : Phi} {br : Nat} {fs : List Fld} {es : List Edt} {n m : Nat} {a : Option Addr} {cap : Nat} {ae : Option Addr} {ce : Nat} {ab : Option Addr} {cb : Nat} (R : RulV φ br fs es n m a cap ae ce ab cb)
    {σ : Type} {J : Nat → Phi → σ → World → Prop} {V : List Int → σ → σ × Bool} {B : Nat} {w0 : World} {p1 p2 p3 p4 p5 : Nat} (w : World) (s : σ) (hB : B ≤ w.heap.size) (hφ : Fz φ w)
    (h0 : ∀ g φ2 w', φ.le φ2 → Inv w.heap.size w φ φ2 w' → w.heap.size ≤ g → g < w'.heap.size → φ2 g = none → J g φ2 s w')
    (hi : ∀ g φ2 s w, J g φ2 s w → Inv B w0 φ2 φ2 w) (hset : ∀ g φ2 s w k v, J g φ2 s w → J g φ2 s (w.setCell ⟨g, k, none⟩ v))
    (hV : ∀ g c φ2, φ.le φ2 → ∀ x s w, Hid (x.length = n) → J g φ2 s w → Own B φ2 w 3 (some ⟨g, 0, none⟩) c x → Calls Tryd.prog 77 #[.slice (some ⟨g, 0, none⟩) n c, .pointer (some ⟨p1, 0, none⟩), .pointer (some ⟨p2, 0, none⟩), .pointer (some ⟨p3, 0, none⟩), .pointer (some ⟨p4, 0, none⟩), .pointer (some ⟨p5, 0, none⟩)] w (fun e w' => e = .returned (.bool (V x s).2) ∧ J g φ2 (V x s).1 w' ∧ Own B φ2 w' 3 (some ⟨g, 0, none⟩) c x))
    {q : σ × Bool} (hq : Hid (foldU V (comps fs (List.replicate n true) n 0 (List.replicate n 0)) s = q)) :
    Calls Tryd.prog 44 #[.pointer (some ⟨br, 0, none⟩), .func (.func 77) #[] #[.pointer (some ⟨p1, 0, none⟩), .pointer (some ⟨p2, 0, none⟩), .pointer (some ⟨p3, 0, none⟩), .pointer (some ⟨p4, 0, none⟩), .pointer (some ⟨p5, 0, none⟩)]] w (AllPost J φ q) := by
  have hn12 := R.ok.pos
  have r0 : w.cell? ⟨br, 0, none⟩ = some (.slice a n cap) := (R.blk hφ).cell 0
  go_enter Tryd.func44, Tryd.ntmps44
  go_wp2_with (at_make; refine wpList_mkn (α := Bool) rfl _ _ 71 rfl slBo (Inv.start hφ) _ _ n false (fun _ => rfl) rfl rfl rfl (by omega) ?_; intro w1 hi1 hown1 hg1)
  rw [← onB_nil] at hown1
  have HS : Hid (Inv w.heap.size w φ φ w1 ∧ Own w.heap.size φ w1 4 (some ⟨w.heap.size, 0, none⟩) n (onB n 0)) := Lib.hid ⟨hi1, hown1⟩
  have H0 := Lib.hid h0
  clear hi1 hown1 hg1 r0 h0
  generalize hbf : w.heap.size = bf at *
  replace hbf := Lib.hid hbf
  go_loopw [18] (fun i wr => ∃ k : Nat, k ≤ n ∧ i = .int .i64 k ∧ Hid (Inv bf w φ φ wr ∧ Own bf φ wr 4 (some ⟨bf, 0, none⟩) n (onB n k))) (fun i _ => n - (intOf i).toNat)
  case atStart => exact ⟨0, Nat.zero_le _, rfl, HS⟩
  case round =>
    clear HS
    obtain ⟨k, hk, rfl, hS⟩ := hrel
    by_cases hlt : k < n
    · obtain ⟨g, hg, hgl, fO⟩ := hS.out.2.boolsD (Lib.hid (onB_len n _)) hlt
      cases hg
      obtain ⟨d3, d4, hst⟩ := fO k hlt
      have HST := Lib.hid (hst true w φ hS.out.1)
      clear fO hst
      go_wp2
      go_roundw
      case rel => exact ⟨k + 1, by omega, by go_num, Lib.hid ⟨HST.out.2, by rw [← onB_step]; exact HST.out.1⟩⟩
      case measure => simp [intOf]; omega
    · obtain rfl : k = n := by omega
      have hO3 := hS.out.2
      rw [onB_all] at hO3
      obtain ⟨φ2, l2, hi2, s2, f2⟩ := hO3.release hS.out.1
      have L2 := Lib.hid l2
      have I2 := Lib.hid hi2
      have S2 := Lib.hid s2
      have R2 := R.mono L2.out
      clear l2 hi2 s2 f2 hO3 hS
      go_wp2_with (at_make; refine wpList_mkn (α := Int) rfl _ _ 26 rfl slI I2.out _ _ k 0 (fun _ => rfl) rfl rfl rfl (by omega) ?_; intro w3 hi3 hown3 hg3)
      have hsz := I2.out.size
      have hgn := (hown3.free _ rfl)
      have hgl := (hown3.lt _ rfl).2
      have HJ := Lib.hid (H0.out wr.heap.size φ2 w3 L2.out hi3 hsz hgl hgn)
      have HO := Lib.hid (hown3.base hB)
      clear hi3 hown3 hg3 hgn hgl
      generalize wr.heap.size = g at *
      go_wp2_with (go_at_call 68; refine (each_least (R2) (J := J g φ2) (V := V) S2.out (Lib.hid (List.length_replicate)) (fun s w h => hi g φ2 s w h) (fun s w k v h => hset g φ2 s w k v h) (fun x s w hx hJ hO => hV g k φ2 L2.out x s w hx hJ hO) k 0 rfl (Nat.zero_le _) 0 rfl (List.replicate k 0) s w3 (Lib.hid (List.length_replicate)) HJ.out HO.out hq).mono ?_; rintro e w6 ⟨x6, rfl, hx6, hJ6, hO6, _⟩)
      go_ret
      exact ⟨rfl, g, φ2, L2.out, hJ6⟩
end Go.Proofs.YtambgcijceecpaaDoor
