/- The walk of SampleHitsAreFair: for every input it returns true and nothing that was there has turned. Conditions: the bounds that the claim form gives. -/
import Derived.Test.YtmgdeenjdoennaaW3
import Derived.Test.YtmgdeenjdoennaaFair
import Derived.Test.YtmgdeenjdoennaaOpen
namespace Go.Proofs.Ytmgdeenjdoennaa
open Go.RowKit
theorem rInts (H : Type) (enc : TypeId × Value → H) (W : World) : Reads enc Try.prog W 22 (List Int) (fun xs => xs.length * 8 ≤ reachBytes ∧ ∀ x ∈ xs, IsI64 x) := Reads.slice Try.underlying22 (by kernel_rfl) (by decide) (Reads.int Try.underlying3)
theorem rInt (H : Type) (enc : TypeId × Value → H) (W : World) : Reads enc Try.prog W 3 Int IsI64 := Reads.int Try.underlying3

theorem Own.ints {B : Nat} {φ : Phi} {w : World} {E : TypeId} {a : Option Addr} {cap : Nat} {xs : List Int} (h : Own B φ w E a cap xs) {k : Nat} (hk : k < xs.length) :
    ∃ g, a = some ⟨g, 0, none⟩ ∧ g < w.heap.size ∧ w.cell? ⟨g, k, none⟩ = some (.int .i64 xs[k]) ∧ w.frozen? ⟨g, k, none⟩ = false ∧
      ∀ y w0 φ0, Inv B w0 φ0 φ w → Own B φ (w.setCell ⟨g, k, none⟩ (.int .i64 y)) E a cap (xs.set k y) ∧ Inv B w0 φ0 φ (w.setCell ⟨g, k, none⟩ (.int .i64 y)) := by
  obtain ⟨g, rfl, _, hg, _, hf, hc⟩ := h.elem hk
  obtain ⟨cs, hcs, hj⟩ := hc k hk
  have hcs' : cs = [.int .i64 xs[k]] := hcs
  subst hcs'
  have h0 := hj 0 (by simp)
  simp [Rep.size] at h0
  refine ⟨g, rfl, hg, h0, hf k, fun y w0 φ0 hi => ?_⟩
  have := h.setCell hi hk (y := y) (j := 0) (u := .int .i64 y) hj rfl (by simp) rfl
  simpa [Rep.size] using this

def tab (n : Nat) (f : Nat → Int) : List Int := (List.range n).map f
theorem tab_len (n : Nat) (f : Nat → Int) : (tab n f).length = n := by simp [tab]
theorem tab_get (n : Nat) (f : Nat → Int) (k : Nat) (h : k < (tab n f).length) : (tab n f)[k] = f k := by simp [tab]
theorem tab_set (n : Nat) (f g : Nat → Int) (k : Nat) (y : Int) (h : ∀ i, i < n → g i = if i = k then y else f i) : (tab n f).set k y = tab n g := by
  apply List.ext_getElem
  · simp [tab]
  · intro i h1 h2
    have hi : i < n := by simpa [tab] using h2
    rw [List.getElem_set]
    simp only [tab, List.getElem_map, List.getElem_range]
    rw [h i hi]
    by_cases e : k = i
    · subst e; simp
    · rw [if_neg e, if_neg (fun h => e h.symm)]
theorem sumL_map_range (f : Nat → Int) : ∀ k, sumL ((List.range k).map f) = sumTo f k
  | 0 => rfl
  | k + 1 => by rw [List.range_succ, List.map_append, List.map_cons, List.map_nil, sumL_snoc, sumL_map_range f k]; rfl

def OkS (l : List Int) : Prop := ∀ x ∈ l, 1 ≤ x ∧ x ≤ 1000
theorem HitsF_fair {sizes : List Int} {take : Int} (h : OkS sizes) (t0 : 0 ≤ take) (t1 : take ≤ 100) (hW : sumL sizes ≤ 2000) (s : Nat) (hs : (s : Int) < sumL sizes) (hl : sizes.length ≤ 2000) : HitsF sizes take s = (hitsL sizes take s, 0) := by
  refine HitsF_ok (by omega) (fun x hx => outB_false.2 (by have := h x hx; omega)) (fun hr => ?_)
  rcases hr with hr | hr
  · have := outB_true.1 hr; omega
  · have := outB_true.1 hr; omega
theorem len_le_sum : ∀ (l : List Int), OkS l → (l.length : Int) ≤ sumL l := by
  intro l h
  have : ∀ k, k ≤ l.length → (k : Int) ≤ sumL (l.take k) := by
    intro k
    induction k with
    | zero => intro _; simp [sumL]
    | succ k ih =>
      intro hk
      have := h _ (List.getElem_mem (show k < l.length by omega))
      rw [sumL_take_succ _ _ (by omega)]
      have := ih (by omega)
      omega
  have := this l.length (Nat.le_refl _)
  rwa [List.take_length] at this

/-- 'all' behind s starts, and k elements of the next. -/
def allF (sizes : List Int) (take : Int) (s k : Nat) (i : Nat) : Int := sumTo (fun t => Hn sizes take t i) s + if i < k then Hn sizes take s i else 0

theorem allF_zero (sizes : List Int) (take : Int) (n : Nat) : List.replicate n (0 : Int) = tab n (allF sizes take 0 0) := by
  apply List.ext_getElem
  · simp [tab]
  · intro i h1 h2
    rw [tab_get]; simp [allF, sumTo]
theorem allF_step (sizes : List Int) (take : Int) (s k : Nat) {A Bv : Int} (hA : allF sizes take s k k = A) (hB : Hn sizes take s k = Bv) : (tab sizes.length (allF sizes take s k)).set k (A + Bv) = tab sizes.length (allF sizes take s (k + 1)) := by
  refine tab_set _ _ _ _ _ fun i hi => ?_
  subst hA; subst hB
  unfold allF
  by_cases e : i = k
  · subst e; simp
  · rw [if_neg e]
    by_cases e2 : i < k
    · rw [if_pos (by omega), if_pos e2]
    · rw [if_neg (by omega), if_neg e2]
theorem allF_next (sizes : List Int) (take : Int) (s : Nat) : tab sizes.length (allF sizes take s sizes.length) = tab sizes.length (allF sizes take (s + 1) 0) := by
  apply List.ext_getElem
  · simp [tab]
  · intro i h1 h2
    have : i < sizes.length := by simpa [tab] using h1
    rw [tab_get, tab_get]; simp [allF, sumTo, this]
theorem allF_bd {sizes : List Int} {take : Int} (h : OkS sizes) (t0 : 0 ≤ take) (t1 : take ≤ 100) (W : Nat) (hW : sumL sizes = W) (s : Nat) (hs : s < W) (k i : Nat) (hi : i < sizes.length) : 0 ≤ allF sizes take s k i ∧ allF sizes take s k i ≤ (s + 1) * 100 := by
  have b1 := sumTo_bd (f := fun t => Hn sizes take t i) 100 s (fun t ht => by have := Hn_bd h t0 W hW t (by omega) i hi; omega)
  have b2 := Hn_bd h t0 W hW s hs i hi
  unfold allF
  split <;> omega
theorem Hits_fair (a : Option Addr) (cap : Nat) (sizes : List Int) (take : Int) (s : Nat) (w : World) (φ : Phi) (hφ : Fz φ w) (hs : SlV φ a cap sizes) (hF : HitsF sizes take s = (hitsL sizes take s, 0)) (hl : sizes.length ≤ 2000) :
    Calls Try.prog 8 #[.slice a sizes.length cap, .int .i64 take, .int .i64 s] w fun e w' => ∃ a2 cap2 φ', e = .returned (.tuple #[.slice a2 sizes.length cap2, .int .i64 0]) ∧ Inv w.heap.size w φ φ' w' ∧ SlV φ' a2 cap2 (tab sizes.length (Hn sizes take s)) := by
  refine (Hits_any a cap sizes take s w φ hφ hs (by omega)).mono ?_
  rintro e w' ⟨a2, cap2, φ', he, hi, hsv⟩
  rw [hF] at he hsv
  exact ⟨a2, cap2, φ', by rw [he]; simp [hitsL, hitsTo_len], hi, hsv⟩

set_option maxHeartbeats 1000000 in
theorem sampleHitsAreFair_walk (w : World) (φ : Phi) (hφ : Fz φ w) (a : Option Addr) (cap : Nat) (sizes : List Int) (hs : SlV φ a cap sizes) (g : sizes.length * 8 ≤ reachBytes ∧ ∀ y ∈ sizes, IsI64 y) (take : Int) (gt : IsI64 take) :
    Calls Try.prog 3 #[.slice a sizes.length cap, .int .i64 take] w fun e w' => e = .returned (.bool true) ∧ Below w.heap.size w w' := by
  have hlen : sizes.length ≤ 17592186043904 := by have := g.1; unfold reachBytes at this; omega
  clear g
  have gt := gt
  unfold IsI64 at gt
  go_enter Try.func3, Try.ntmps3
  go_wp2
  go_loop [5, 19] (fun s i => ∃ k : Nat, k ≤ sizes.length ∧ i = .int .i64 k ∧ s = .int .i64 (sumL (sizes.take k)) ∧ OkS (sizes.take k)) (fun _ i => sizes.length - (intOf i).toNat)
  case atStart => exact ⟨0, Nat.zero_le _, rfl, rfl, by simp [OkS]⟩
  case round =>
    obtain ⟨k, hk, rfl, rfl, hx⟩ := hrel
    have hb : 0 ≤ sumL (sizes.take k) ∧ sumL (sizes.take k) ≤ 17592186043904 * 1000 := by
      have := sumL_bd 1000 (sizes.take k) (fun x h => by have := hx x h; omega)
      have hl : (sizes.take k).length ≤ 17592186043904 := Nat.le_trans (List.length_take_le' _ _) hlen
      omega
    have Hx := Lib.hid hx
    clear hx
    by_cases hlt : k < sizes.length
    · obtain ⟨b, off, rfl, hc⟩ := hs.ints hlt
      have hck := (hc w hφ).2
      by_cases h1 : sizes[k] < 1
      · go_wp2
        go_ret
        exact ⟨rfl, Below.refl _ _⟩
      · by_cases h2 : 1000 < sizes[k]
        · go_wp2
          go_ret
          exact ⟨rfl, Below.refl _ _⟩
        · go_wp2
          go_round
          case rel => exact ⟨k + 1, by omega, by go_num, by rw [take_snoc _ _ hlt, sumL_snoc], by rw [take_snoc _ _ hlt]; intro x hx; rcases List.mem_append.1 hx with h | h; exact Hx.out x h; simp at h; subst h; omega⟩
          case measure => simp [intOf]; omega
    · obtain rfl : k = sizes.length := by omega
      rw [List.take_length] at Hx hb ⊢
      clear hk hlt
      by_cases h1 : 2000 < sumL sizes
      · go_wp2
        go_ret
        exact ⟨rfl, Below.refl _ _⟩
      · by_cases h2 : take < 0
        · go_wp2
          go_ret
          exact ⟨rfl, Below.refl _ _⟩
        · by_cases h3 : 100 < take
          · go_wp2
            go_ret
            exact ⟨rfl, Below.refl _ _⟩
          · have hl2 : sizes.length ≤ 2000 := by have := len_le_sum _ Hx.out; omega
            obtain ⟨W, hW⟩ := Int.eq_ofNat_of_zero_le hb.1
            have HW := Lib.hid hW
            rw [hW] at hb h1 ⊢
            clear hW
            go_wp2_with (at_make; refine wpList_mkn (α := Int) rfl _ _ 22 rfl sl22 (Inv.start hφ) _ _ sizes.length 0 (fun _ => rfl) rfl rfl rfl (by omega) ?_; intro w1 hi1 hown1 hg1)
            rw [allF_zero sizes take] at hown1
            go_loopw [47] (fun i wr => ∃ s : Nat, s ≤ W ∧ i = .int .i64 s ∧ ∃ φr, Inv w.heap.size w φ φr wr ∧ Own w.heap.size φr wr 3 (some ⟨w.heap.size, 0, none⟩) sizes.length (tab sizes.length (allF sizes take s 0))) (fun i _ => W - (intOf i).toNat)
            case atStart => exact ⟨0, Nat.zero_le _, rfl, φ, hi1, hown1⟩
            case round =>
              obtain ⟨s, hsW, rfl, φr, hi, hown⟩ := hrel
              clear hi1 hown1 hg1
              by_cases hlt : s < W
              · have hF := Lib.hid (HitsF_fair Hx.out (by omega) (by omega) (by rw [HW.out]; omega) s (by rw [HW.out]; omega) hl2)
                go_wp2_with fail
                refine (Hits_fair _ _ _ _ _ _ φr hi.fz (hs.mono hi.le) hF.out hl2).mono ?_
                rintro e w2 ⟨a2, cap2, φ2, rfl, hi2, hs2⟩
                have hi3 := hi.call hi2
                have hown3 := hown.call hi2
                clear hi2 hi hown
                go_wp2
                go_loopw [12, 68] (fun n i wr => ∃ k : Nat, k ≤ sizes.length ∧ i = .int .i64 k ∧ n = .int .i64 (sumTo (Hn sizes take s) k) ∧ Inv w.heap.size w φ φ2 wr ∧ Own w.heap.size φ2 wr 3 (some ⟨w.heap.size, 0, none⟩) sizes.length (tab sizes.length (allF sizes take s k))) (fun _ i _ => sizes.length - (intOf i).toNat)
                case atStart => exact ⟨0, Nat.zero_le _, rfl, rfl, hi3, hown3⟩
                case round =>
                  obtain ⟨k, hk, rfl, rfl, hi, hown⟩ := hrel
                  clear hi3 hown3
                  have hsum := sumTo_bd (f := Hn sizes take s) 100 k (fun i h => by have := Hn_bd Hx.out (by omega) W HW.out s hlt i (by omega); omega)
                  by_cases hkl : k < sizes.length
                  · obtain ⟨b2, off2, rfl, hc2⟩ := hs2.ints (k := k) (by rw [tab_len]; exact hkl)
                    have hck := (hc2 _ hi.fz).2
                    rw [tab_get] at hck
                    obtain ⟨g, hg, hgl, hgc, hgf, hgs⟩ := hown.ints (k := k) (by rw [tab_len]; exact hkl)
                    injection hg with hg; injection hg with hg
                    subst hg
                    rw [tab_get] at hgc
                    have bb := allF_bd Hx.out (take := take) (by omega) (by omega) W HW.out s hlt k k hkl
                    have bh := Hn_bd Hx.out (take := take) (by omega) W HW.out s hlt k hkl
                    have hst := Lib.hid (hgs (allF sizes take s k k + Hn sizes take s k) _ _ hi)
                    clear hgs
                    have hHid := Lib.hid (show allF sizes take s k = allF sizes take s k from rfl)
                    generalize hA : allF sizes take s k k = A at *
                    generalize hB : Hn sizes take s k = Bv at *
                    have hA := Lib.hid hA
                    have hB := Lib.hid hB
                    go_wp2
                    go_roundw
                    case rel => exact ⟨k + 1, by omega, by go_num, by rw [sumTo, hB.out], hst.out.2, by rw [← allF_step _ _ _ _ hA.out hB.out]; exact hst.out.1⟩
                    case measure => simp [intOf]; omega
                  · obtain rfl : k = sizes.length := by omega
                    have hT := Hn_total (sizes := sizes) (take := take) (by omega) W HW.out s hlt
                    rw [hT] at hsum ⊢
                    rw [allF_next] at hown
                    clear hT
                    go_wp2
                    go_roundw
                    case rel => exact ⟨s + 1, by omega, by go_num, φ2, hi, hown⟩
                    case measure => simp [intOf]; omega
              · obtain rfl : s = W := by omega
                go_wp2
                go_loopw [90] (fun i w4 => w4 = wr ∧ ∃ k : Nat, k ≤ sizes.length ∧ i = .int .i64 k) (fun i _ => sizes.length - (intOf i).toNat)
                case atStart => exact ⟨rfl, 0, Nat.zero_le _, rfl⟩
                case round =>
                  obtain ⟨rfl, k, hk, rfl⟩ := hrel
                  by_cases hkl : k < sizes.length
                  · obtain ⟨b, off, rfl, hc⟩ := hs.ints hkl
                    have hck := (hc _ (hi.fz.sub hi.le)).2
                    obtain ⟨g, hg, hgl, hgc, hgf, _⟩ := hown.ints (k := k) (by rw [tab_len]; exact hkl)
                    injection hg with hg; injection hg with hg
                    subst hg
                    have e : allF sizes take s 0 k = take * sizes[k] := by
                      have := Hn_sum Hx.out (take := take) (by omega) s HW.out k hkl
                      simp [allF, this]
                    rw [tab_get, e] at hgc
                    have bx := Hx.out _ (List.getElem_mem hkl)
                    have bm : 0 ≤ take * sizes[k] ∧ take * sizes[k] ≤ 100 * 1000 := ⟨Int.mul_nonneg (by omega) (by omega), by
                      have h1 : take * sizes[k] ≤ 100 * sizes[k] := Int.mul_le_mul_of_nonneg_right (by omega) (by omega)
                      omega⟩
                    clear e
                    generalize hM : sizes[k] = m at *
                    have hM := Lib.hid hM
                    go_wp2
                    go_roundw
                    case rel => exact ⟨trivial, k + 1, by omega, by go_num⟩
                    case measure => simp [intOf]; omega
                  · go_wp2
                    go_ret
                    exact ⟨rfl, hi.bel⟩
end Go.Proofs.Ytmgdeenjdoennaa
