/- The rules of a coder: the plain law, and the walks of rulesFault and checkRule. Conditions: none beyond what the claim form gives. -/
import Derived.Test.YtapkkplndhbapaaW6
import Derived.Test.YtapkkplndhbapaaR3
namespace Go.Proofs.Ytapkkplndhbapaa
open Go.RowKit
set_option linter.unusedVariables false
abbrev Rul := List ByteArray × List ByteArray × Int
abbrev rul0 : Rul := ([], [], 0)
def RulG (r : Rul) : Prop := (r.1.length * 16 ≤ reachBytes ∧ ∀ x ∈ r.1, StrG x) ∧ (r.2.1.length * 16 ≤ reachBytes ∧ ∀ x ∈ r.2.1, StrG x) ∧ IsI64 r.2.2
theorem SlV.rulD {φ : Phi} {a : Option Addr} {cap : Nat} {xs : List Rul} (h : SlV φ a cap xs) {k n : Nat} (hn : Hid (xs.length = n)) (hk : k < n) :
    ∃ b off, a = some ⟨b, off, none⟩ ∧ ∀ k, k < n → ∃ a1 c1 a2 c2, SlV φ a1 c1 (xs.getD k rul0).1 ∧ SlV φ a2 c2 (xs.getD k rul0).2.1 ∧ ∀ w, Fz φ w → b < w.heap.size ∧ w.cell? ⟨b, off + k * 3, none⟩ = some (.slice a1 (xs.getD k rul0).1.length c1) ∧ w.cell? ⟨b, off + k * 3 + 1, none⟩ = some (.slice a2 (xs.getD k rul0).2.1.length c2) ∧ w.cell? ⟨b, off + k * 3 + 2, none⟩ = some (.int .i64 (xs.getD k rul0).2.2) := by
  obtain ⟨b, off, ha, hc⟩ := h.cellsD rul0 hn hk
  refine ⟨b, off, ha, fun k hk => ?_⟩
  obtain ⟨cs, ⟨c, d, rfl, ⟨a1, c1, rfl, s1⟩, c', d', rfl, ⟨a2, c2, rfl, s2⟩, h3⟩, hj⟩ := hc k hk
  cases h3
  have j0 := hj 0 (by simp)
  have j1 := hj 1 (by simp)
  have j2 := hj 2 (by simp)
  simp [Rep.size] at j0 j1 j2
  exact ⟨a1, c1, a2, c2, s1, s2, fun w hw => ⟨hw.lt j0, hw.cell j0, hw.cell j1, hw.cell j2⟩⟩
noncomputable def rulBad (l : List Nod) (r : Rul) : Int :=
  if r.1.length = 0 then 9 else if 60 < r.1.length ∨ 60 < r.2.1.length then 2 else if risF r.1 ≠ 0 then risF r.1 else if risF r.2.1 ≠ 0 then risF r.2.1 else if (ix l r.2.2).isSome = true then 0 else 5
noncomputable def rulsF (l : List Nod) (rs : List Rul) : Int := scan (fun k => rulBad l (rs.getD k rul0)) rs.length
theorem rulsF_at {l : List Nod} {rs : List Rul} {n k : Nat} (hn : Hid (rs.length = n)) (hk : k < n) (h : Hid (∀ i, i < k → rulBad l (rs.getD i rul0) = 0)) {c : Int} (hc : rulBad l (rs.getD k rul0) = c) (hc0 : c ≠ 0) : rulsF l rs = c := by
  rw [rulsF, hn.out, scan_stop h.out hk (by rw [hc]; exact hc0), hc]
theorem rulsF_ok {l : List Nod} {rs : List Rul} {n : Nat} (hn : Hid (rs.length = n)) (h : Hid (∀ i, i < n → rulBad l (rs.getD i rul0) = 0)) : rulsF l rs = 0 := by
  rw [rulsF, hn.out, scan_zero _ _ h.out]
theorem next_rul {l : List Nod} {rs : List Rul} {k : Nat} (h : Hid (∀ i, i < k → rulBad l (rs.getD i rul0) = 0)) (hk : rulBad l (rs.getD k rul0) = 0) : Hid (∀ i, i < k + 1 → rulBad l (rs.getD i rul0) = 0) := next_ok (f := fun k => rulBad l (rs.getD k rul0)) h hk
set_option maxRecDepth 100000 in
set_option maxHeartbeats 2000000 in
theorem rulesFault_any {bm bt : Nat} {cs : Array Value} {an : Option Addr} {nn cn m1 m2 : Nat} {l : List Nod} {nr : Nat} {ar : Option Addr} {cr : Nat} {rs : List Rul} {w : World} {φ : Phi} (hφ : Fz φ w) (hB : Hid (Blk w bm cs 59)) (hc3 : Hid (cs[3]? = some (.slice ar nr cr))) (hc5 : Hid (cs[5]? = some (.pointer (some ⟨bt, 0, none⟩)))) (s : SlV φ ar cr rs) (hnr : Hid (rs.length = nr)) (hm : nr ≤ 9223372036854775807) (hg : Hid (∀ x ∈ rs, RulG x)) (ht : Hid (TreeW w bt an cn nn m1 m2 (atF l) (lvF l))) :
    Calls Try.prog 27 #[.pointer (some ⟨bm, 0, none⟩)] w fun e w' => e = .returned (.int .i64 (rulsF l rs)) ∧ Below w.heap.size w w' := by
  have c3 : w.cell? ⟨bm, 3, none⟩ = some (.slice ar nr cr) := (hB.out.cell 3).trans hc3.out
  go_enter Try.func27, Try.ntmps27
  go_wp2
  clear c3
  go_loopw [14] (fun i wr => ∃ k : Nat, k ≤ nr ∧ i = .int .i64 k ∧ Hid (∀ i, i < k → rulBad l (rs.getD i rul0) = 0) ∧ Hid (Below w.heap.size w wr)) (fun i _ => nr - (intOf i).toNat)
  case atStart => exact ⟨0, Nat.zero_le _, rfl, Lib.hid (fun i hi => by omega), Lib.hid (Below.refl _ _)⟩
  case round =>
    obtain ⟨k, hk, rfl, hok, hb⟩ := hrel
    by_cases hlt : k < nr
    · obtain ⟨b, off, rfl, f⟩ := s.rulD hnr hlt
      obtain ⟨a1, c1, a2, c2, s1, s2, f2⟩ := f k hlt
      obtain ⟨hbl, d1, d2, d3⟩ := f2 wr (hφ.below hb.out)
      have hgk := hg.out (rs.getD k rul0) (by rw [getD_elem0 _ _ _ (by rw [hnr.out]; exact hlt)]; exact List.getElem_mem _)
      obtain ⟨⟨l1, hs1⟩, ⟨l2, hs2⟩, _⟩ := hgk
      unfold reachBytes at l1 l2
      replace hs1 := Lib.hid hs1
      replace hs2 := Lib.hid hs2
      have hrb : Hid (rulBad l (rs.getD k rul0) = _) := Lib.hid (rulBad.eq_1 l (rs.getD k rul0))
      clear f f2
      generalize (rs.getD k rul0).1 = r1 at *
      generalize (rs.getD k rul0).2.1 = r2 at *
      generalize (rs.getD k rul0).2.2 = x3 at *
      obtain ⟨n1, hn1⟩ : ∃ n1, Hid (r1.length = n1) := ⟨_, Lib.hid rfl⟩
      obtain ⟨n2, hn2⟩ : ∃ n2, Hid (r2.length = n2) := ⟨_, Lib.hid rfl⟩
      rw [hn1.out] at d1 l1 hrb
      rw [hn2.out] at d2 l2 hrb
      have hWb := Lib.hid (fun o o' => (hb.out.alloc hb.out.size o).alloc (Nat.le_trans hb.out.size (by simp)) o')
      by_cases z1 : n1 = 0
      · have zb : ((n1 : Int) == 0) = true := by simp [z1]
        have Z1 := Lib.hid z1
        clear z1
        go_wp2
        go_ret
        exact ⟨ret_int (rulsF_at hnr hlt hok (by rw [hrb.out, if_pos Z1.out]) (by decide)).symm, hb.out.alloc hb.out.size _⟩
      have zb : ((n1 : Int) == 0) = false := by simp; omega
      replace z1 := Lib.hid z1
      by_cases z2 : 60 < n1 ∨ 60 < n2
      · have Z2 := Lib.hid z2
        by_cases z3 : 60 < n1
        · go_wp2
          go_ret
          exact ⟨ret_int (rulsF_at hnr hlt hok (by rw [hrb.out, if_neg z1.out, if_pos Z2.out]) (by decide)).symm, hb.out.alloc hb.out.size _⟩
        · have z4 : 60 < n2 := by omega
          go_wp2
          go_ret
          exact ⟨ret_int (rulsF_at hnr hlt hok (by rw [hrb.out, if_neg z1.out, if_pos Z2.out]) (by decide)).symm, hb.out.alloc hb.out.size _⟩
      have z3 : n1 ≤ 60 ∧ n2 ≤ 60 := by omega
      obtain ⟨z3, z4⟩ := z3
      replace z2 := Lib.hid z2
      go_wp2
      clear d1 d2 d3 zb
      have hB2 := Lib.hid (fun W => fun hb2 : Below w.heap.size w W => (hB.out.below hb2 hB.out.lt))
      have hA := (Blk.new wr #[.slice a1 n1 c1, .slice a2 n2 c2, .int .i64 x3] 48).alloc (.cells #[.slice a1 n1 c1, .slice a2 n2 c2] 23)
      have hBb := Blk.new (wr.alloc (.cells #[.slice a1 n1 c1, .slice a2 n2 c2, .int .i64 x3] 48)) #[.slice a1 n1 c1, .slice a2 n2 c2] 23
      have hsz : (wr.alloc (.cells #[.slice a1 n1 c1, .slice a2 n2 c2, .int .i64 x3] 48)).heap.size = wr.heap.size + 1 := by simp
      rw [hsz] at hBb
      have q2 : ((wr.alloc (.cells #[.slice a1 n1 c1, .slice a2 n2 c2, .int .i64 x3] 48)).alloc (.cells #[.slice a1 n1 c1, .slice a2 n2 c2] 23)).cell? ⟨wr.heap.size, 2, none⟩ = some (.int .i64 x3) := hA.cell 2
      have p0 : ((wr.alloc (.cells #[.slice a1 n1 c1, .slice a2 n2 c2, .int .i64 x3] 48)).alloc (.cells #[.slice a1 n1 c1, .slice a2 n2 c2] 23)).cell? ⟨wr.heap.size + 1, 0, none⟩ = some (.slice a1 n1 c1) := hBb.cell 0
      have p1 : ((wr.alloc (.cells #[.slice a1 n1 c1, .slice a2 n2 c2, .int .i64 x3] 48)).alloc (.cells #[.slice a1 n1 c1, .slice a2 n2 c2] 23)).cell? ⟨wr.heap.size + 1, 1, none⟩ = some (.slice a2 n2 c2) := hBb.cell 1
      have hWB := Lib.hid (hWb.out (.cells #[.slice a1 n1 c1, .slice a2 n2 c2, .int .i64 x3] 48) (.cells #[.slice a1 n1 c1, .slice a2 n2 c2] 23))
      have hW5 := (hB2.out _ hWB.out).cell 5
      rw [hc5.out] at hW5
      have hTW := Lib.hid (fun q => (ht.out.callB hWB.out).callB (bdrewN (Below.refl _ _) q))
      clear hWb hsz hA hBb hB2
      generalize (wr.alloc (.cells #[.slice a1 n1 c1, .slice a2 n2 c2, .int .i64 x3] 48)).alloc (.cells #[.slice a1 n1 c1, .slice a2 n2 c2] 23) = W at *
      generalize wr.heap.size + 1 = bl at *
      generalize wr.heap.size = bx at *
      have hWb := hWB
      go_loopw [38] (fun i wi => ∃ j : Nat, j ≤ 2 ∧ i = .int .i64 j ∧ Hid (0 < j → risF r1 = 0) ∧ Hid (1 < j → risF r2 = 0) ∧ wi = W) (fun i _ => 2 - (intOf i).toNat)
      case atStart => exact ⟨0, by omega, rfl, Lib.hid (fun h => by omega), Lib.hid (fun h => by omega), rfl⟩
      case round =>
        obtain ⟨j, hj, rfl, hz1, hz2, rfl⟩ := hrel
        by_cases j0 : j = 0
        · subst j0
          obtain ⟨q, hq⟩ : ∃ q, Hid (risF r1 = q) := ⟨_, Lib.hid rfl⟩
          by_cases hq0 : q = 0
          · have hg : ((q : Int) != 0) = false := by simp [hq0]
            have HQ0 := Lib.hid hq0
            clear hq0
            go_wp2_with (go_at_call 25; refine (risingWords_any n1 a1 c1 r1 _ _ (hφ.below hWB.out) s1 hn1 (by omega) hs1).mono ?_; rintro e w' ⟨rfl, rfl⟩; rw [hq.out])
            go_roundw
            case rel => exact ⟨1, by omega, by go_num, Lib.hid (fun _ => by rw [hq.out, HQ0.out]), Lib.hid (fun h => by omega), trivial⟩
            case measure => (simp [intOf] <;> omega)
          · have hg : ((q : Int) != 0) = true := by simp [hq0]
            have HQ0 := Lib.hid hq0
            clear hq0
            go_wp2_with (go_at_call 25; refine (risingWords_any n1 a1 c1 r1 _ _ (hφ.below hWB.out) s1 hn1 (by omega) hs1).mono ?_; rintro e w' ⟨rfl, rfl⟩; rw [hq.out])
            go_ret
            exact ⟨ret_int (rulsF_at hnr hlt hok (by rw [hrb.out, if_neg z1.out, if_neg z2.out, if_pos (by rw [hq.out]; exact HQ0.out), hq.out]) HQ0.out).symm, hWb.out⟩
        by_cases j1 : j = 1
        · subst j1
          obtain ⟨q, hq⟩ : ∃ q, Hid (risF r2 = q) := ⟨_, Lib.hid rfl⟩
          by_cases hq0 : q = 0
          · have hg : ((q : Int) != 0) = false := by simp [hq0]
            have HQ0 := Lib.hid hq0
            clear hq0
            go_wp2_with (go_at_call 25; refine (risingWords_any n2 a2 c2 r2 _ _ (hφ.below hWB.out) s2 hn2 (by omega) hs2).mono ?_; rintro e w' ⟨rfl, rfl⟩; rw [hq.out])
            go_roundw
            case rel => exact ⟨2, by omega, by go_num, Lib.hid (fun _ => hz1.out (by omega)), Lib.hid (fun _ => by rw [hq.out, HQ0.out]), trivial⟩
            case measure => (simp [intOf] <;> omega)
          · have hg : ((q : Int) != 0) = true := by simp [hq0]
            have HQ0 := Lib.hid hq0
            clear hq0
            go_wp2_with (go_at_call 25; refine (risingWords_any n2 a2 c2 r2 _ _ (hφ.below hWB.out) s2 hn2 (by omega) hs2).mono ?_; rintro e w' ⟨rfl, rfl⟩; rw [hq.out])
            go_ret
            exact ⟨ret_int (rulsF_at hnr hlt hok (by rw [hrb.out, if_neg z1.out, if_neg z2.out, if_neg (by rw [hz1.out (by omega)]; simp), if_pos (by rw [hq.out]; exact HQ0.out), hq.out]) HQ0.out).symm, hWb.out⟩
        obtain rfl : j = 2 := by omega
        have Z1 := Lib.hid (hz1.out (by omega))
        have Z2 := Lib.hid (hz2.out (by omega))
        obtain ⟨q, hq⟩ : ∃ q, Hid ((atF l x3).isSome = q) := ⟨_, Lib.hid rfl⟩
        cases q
        · go_wp2
          go_quiet ((go_at_call 28; exact Calls.quiet_of_same (has_q (hTW.out _) _ hq.out)))
          go_wp2
          go_ret
          exact ⟨ret_int (rulsF_at hnr hlt hok (by rw [hrb.out, if_neg z1.out, if_neg z2.out, if_neg (by rw [Z1.out]; simp), if_neg (by rw [Z2.out]; simp), if_neg (by rw [← atF_isSome, hq.out]; simp)]) (by decide)).symm, bdrewN hWB.out _⟩
        · go_wp2
          go_quiet ((go_at_call 28; exact Calls.quiet_of_same (has_q (hTW.out _) _ hq.out)))
          go_wp2
          go_roundw
          case rel => exact ⟨k + 1, by omega, by go_num, next_rul hok (by rw [hrb.out, if_neg z1.out, if_neg z2.out, if_neg (by rw [Z1.out]; simp), if_neg (by rw [Z2.out]; simp), if_pos (by rw [← atF_isSome, hq.out])]), Lib.hid (bdrewN hWB.out _)⟩
          case measure => (simp [intOf] <;> omega)
    · obtain rfl : k = nr := by omega
      go_wp2
      go_ret
      exact ⟨ret_int (rulsF_ok hnr hok).symm, hb.out⟩
set_option maxRecDepth 100000 in
set_option maxHeartbeats 1000000 in
theorem RisWord_any (s : ByteArray) (w : World) (hs : s.size ≤ reachBytes) {b : Bool} (h : wordB s = b) :
    Calls Try.prog 16 #[.string s] w fun e w' => e = .returned (.bool b) ∧ w = w' := by
  subst h
  unfold reachBytes at hs
  go_enter Try.func16, Try.ntmps16
  go_wp2
  go_loop [6] (fun i => ∃ k : Nat, k ≤ s.size ∧ i = .int .i64 k ∧ Hid (∀ i, i < k → wbB (byt s i) = true)) (fun i => s.size - (intOf i).toNat)
  case atStart => exact ⟨0, Nat.zero_le _, rfl, Lib.hid (fun i hi => by omega)⟩
  case round =>
    obtain ⟨k, hk, rfl, hok⟩ := hrel
    by_cases hlt : k < s.size
    · have hb := byt_bd s k
      have hek := Lib.hid (byt_eq s k hlt)
      have hd0 : ((s[k]'hlt).toNat : Int) < 256 := by rw [← hek.out]; omega
      have hd1 : 0 ≤ ((s[k]'hlt).toNat : Int) := by omega
      go_wp2
      all_goals first
        | (go_ret
           exact ⟨ret_bool (wordB_false (fun h => by have := h.1 k hlt; rw [hek.out] at this; unfold wbB at this; simp at this; omega)).symm, rfl⟩)
        | (go_round
           case rel => exact ⟨k + 1, by omega, by go_num, Lib.hid (fun i hi => by
            by_cases e : i = k
            · subst e; rw [hek.out]; unfold wbB; simp; omega
            · exact hok.out i (by omega))⟩
           case measure => (simp [intOf] <;> omega))
    · obtain rfl : k = s.size := by omega
      by_cases hz : s.size = 0
      · have he : s.toList.isEmpty = true := by rw [isEmpty_iff]; simp [hz]
        have he2 : s.toList = [] := List.isEmpty_iff.1 he
        have HZ := Lib.hid hz
        clear hz
        go_wp2
        go_ret
        exact ⟨ret_bool (wordB_false (fun h => by have := h.2.1; have := HZ.out; omega)).symm, rfl⟩
      · have he : s.toList.isEmpty = false := by rw [isEmpty_iff]; simp [hz]
        have HZ := Lib.hid hz
        clear hz
        go_wp2
        go_ret
        refine ⟨ret_bool ?_, rfl⟩
        by_cases h30 : s.size ≤ 30
        · rw [wordB_true ⟨hok.out, by have := HZ.out; omega, h30⟩]; simp; omega
        · rw [wordB_false (fun h => h30 h.2.2)]; simp; omega
set_option maxHeartbeats 1000000 in
theorem RcheckWords_any (n : Nat) (a : Option Addr) (cap : Nat) (l : List ByteArray) (w : World) (φ : Phi) (hφ : Fz φ w) (s : SlV φ a cap l) (hn : Hid (l.length = n)) (hm : n ≤ 9223372036854775807) (hs : Hid (∀ x ∈ l, StrG x)) :
    Calls Try.prog 15 #[.slice a n cap] w (fun e w' => e = .returned (.int .i64 (risF l)) ∧ w = w') := by
  go_enter Try.func15, Try.ntmps15
  go_wp2
  go_loop [7] (fun i => ∃ k : Nat, k ≤ n ∧ i = .int .i64 k ∧ Hid (∀ i, i < k → wrdBad l i = 0)) (fun i => n - (intOf i).toNat)
  case atStart => exact ⟨0, Nat.zero_le _, rfl, none_yet _⟩
  case round =>
    obtain ⟨k, hk, rfl, hok⟩ := hrel
    by_cases hlt : k < n
    · obtain ⟨b, off, rfl, f⟩ := s.strsD hn hlt
      obtain ⟨hb, c1⟩ := f k hlt w hφ
      have hp : 0 < k → w.cell? ⟨b, off + (k - 1), none⟩ = some (.string (l.getD (k - 1) str0)) := fun h => (f (k - 1) (by omega) w hφ).2
      have hsz : (l.getD k str0).size ≤ reachBytes := by rw [getD_elem0 _ _ _ (by rw [hn.out]; exact hlt)]; exact hs.out _ (List.getElem_mem _)
      have hbad : Hid (wrdBad l k = _) := Lib.hid (wrdBad.eq_1 l k)
      have HP := Lib.hid hp
      clear f hp
      generalize l.getD k str0 = x at *
      generalize l.getD (k - 1) str0 = p at *
      obtain ⟨q, hq⟩ : ∃ q, Hid (wordB x = q) := ⟨_, Lib.hid rfl⟩
      cases q
      · go_wp2_with (go_at_call 16; refine (RisWord_any _ _ hsz hq.out).mono ?_; rintro e w' ⟨rfl, rfl⟩)
        go_ret
        have e5 : wrdBad l k = 5 := by rw [hbad.out, if_pos hq.out]
        exact ⟨ret_int (by rw [risF, hn.out, scan_stop hok.out hlt (by rw [e5]; decide), e5]), rfl⟩
      have e1 : Hid (¬ wordB x = false) := Lib.hid (by rw [hq.out]; simp)
      by_cases h3 : 0 < k
      · have hpp := HP.out h3
        have h3i : (0 : Int) < k := by omega
        have hix : 0 ≤ (k : Int) - 1 := by omega
        have hix2 : (k : Int) - 1 < n := by omega
        have hw1 : IntKind.i64.wrap ((k : Int) - 1) = k - 1 := IntWalk.i64_in _ (by omega)
        have hto : ((k : Int) - 1).toNat = k - 1 := by omega
        obtain ⟨o, ho⟩ : ∃ o, Hid (strLe x p = o) := ⟨_, Lib.hid rfl⟩
        have ho2 : (Op.bytesLess x.toList p.toList || (x.toList == p.toList)) = o := ho.out
        cases o
        · go_wp2_with (go_at_call 16; refine (RisWord_any _ _ hsz hq.out).mono ?_; rintro e w' ⟨rfl, rfl⟩)
          go_round
          case rel => exact ⟨k + 1, by omega, by go_num, next_ok hok (by rw [hbad.out, if_neg e1.out, if_neg (fun h => by rw [ho.out] at h; exact absurd h.2 (by simp))])⟩
          case measure => (simp [intOf] <;> omega)
        · go_wp2_with (go_at_call 16; refine (RisWord_any _ _ hsz hq.out).mono ?_; rintro e w' ⟨rfl, rfl⟩)
          go_ret
          have e7 : wrdBad l k = 7 := by rw [hbad.out, if_neg e1.out, if_pos ⟨h3, ho.out⟩]
          exact ⟨ret_int (by rw [risF, hn.out, scan_stop hok.out hlt (by rw [e7]; decide), e7]), rfl⟩
      · have h3i : decide ((0 : Int) < k) = false := decide_eq_false (by omega)
        go_wp2_with (go_at_call 16; refine (RisWord_any _ _ hsz hq.out).mono ?_; rintro e w' ⟨rfl, rfl⟩)
        go_round
        case rel => exact ⟨k + 1, by omega, by go_num, next_ok hok (by rw [hbad.out, if_neg e1.out, if_neg (fun h => h3 h.1)])⟩
        case measure => (simp [intOf] <;> omega)
    · obtain rfl : k = n := by omega
      go_wp2
      go_ret
      exact ⟨ret_int (by rw [risF, hn.out, scan_zero _ _ hok.out]), rfl⟩
set_option maxRecDepth 100000 in
set_option maxHeartbeats 2000000 in
theorem RcheckRule_any {an : Option Addr} {nn cn : Nat} {l : List Nod} {a1 : Option Addr} {n1 c1 : Nat} {r1 : List ByteArray} {a2 : Option Addr} {n2 c2 : Nat} {r2 : List ByteArray} (x3 : Int) {w : World} {φ : Phi} (hφ : Fz φ w) (sN : SlV φ an cn l) (hFr : Hid (FrOk l nn)) (s1 : SlV φ a1 c1 r1) (hn1 : Hid (r1.length = n1)) (s2 : SlV φ a2 c2 r2) (hn2 : Hid (r2.length = n2)) (hg : Hid (RulG (r1, r2, x3))) {rb : Int} (hrb0 : Hid (rulBad l (r1, r2, x3) = rb)) :
    Calls Try.prog 17 #[.agg #[.slice a1 n1 c1, .slice a2 n2 c2, .int .i64 x3], .slice an nn cn] w fun e w' => e = .returned (.int .i64 rb) ∧ Below w.heap.size w w' := by
  obtain ⟨⟨l1, hs1⟩, ⟨l2, hs2⟩, _⟩ := hg.out
  unfold reachBytes at l1 l2
  replace hs1 := Lib.hid hs1
  replace hs2 := Lib.hid hs2
  have hrb : Hid (rulBad l (r1, r2, x3) = _) := Lib.hid (rulBad.eq_1 l (r1, r2, x3))
  dsimp only at hrb hs1 hs2 l1 l2
  rw [hn1.out] at l1 hrb
  rw [hn2.out] at l2 hrb
  have hWb := Lib.hid (fun o o' => ((Below.refl w.heap.size w).alloc (Nat.le_refl _) o).alloc (by simp) o')
  have hWb1 := Lib.hid (fun o => (Below.refl w.heap.size w).alloc (Nat.le_refl _) o)
  by_cases z1 : n1 = 0
  · have zb : ((n1 : Int) == 0) = true := by simp [z1]
    have Z1 := Lib.hid z1
    clear z1
    go_enter Try.func17, Try.ntmps17
    go_wp2
    go_ret
    exact ⟨ret_int (by rw [← hrb0.out, hrb.out, if_pos Z1.out]), hWb1.out _⟩
  have zb : ((n1 : Int) == 0) = false := by simp; omega
  replace z1 := Lib.hid z1
  by_cases z2 : 60 < n1 ∨ 60 < n2
  · have Z2 := Lib.hid z2
    by_cases z3 : 60 < n1
    · go_enter Try.func17, Try.ntmps17
      go_wp2
      go_ret
      exact ⟨ret_int (by rw [← hrb0.out, hrb.out, if_neg z1.out, if_pos Z2.out]), hWb1.out _⟩
    · have z4 : 60 < n2 := by omega
      go_enter Try.func17, Try.ntmps17
      go_wp2
      go_ret
      exact ⟨ret_int (by rw [← hrb0.out, hrb.out, if_neg z1.out, if_pos Z2.out]), hWb1.out _⟩
  have z3 : n1 ≤ 60 ∧ n2 ≤ 60 := by omega
  obtain ⟨z3, z4⟩ := z3
  replace z2 := Lib.hid z2
  go_enter Try.func17, Try.ntmps17
  go_wp2
  clear zb
  have hA := (Blk.new w #[.slice a1 n1 c1, .slice a2 n2 c2, .int .i64 x3] 48).alloc (.cells #[.slice a1 n1 c1, .slice a2 n2 c2] 23)
  have hBb := Blk.new (w.alloc (.cells #[.slice a1 n1 c1, .slice a2 n2 c2, .int .i64 x3] 48)) #[.slice a1 n1 c1, .slice a2 n2 c2] 23
  have hsz : (w.alloc (.cells #[.slice a1 n1 c1, .slice a2 n2 c2, .int .i64 x3] 48)).heap.size = w.heap.size + 1 := by simp
  rw [hsz] at hBb
  have q2 : ((w.alloc (.cells #[.slice a1 n1 c1, .slice a2 n2 c2, .int .i64 x3] 48)).alloc (.cells #[.slice a1 n1 c1, .slice a2 n2 c2] 23)).cell? ⟨w.heap.size, 2, none⟩ = some (.int .i64 x3) := hA.cell 2
  have p0 : ((w.alloc (.cells #[.slice a1 n1 c1, .slice a2 n2 c2, .int .i64 x3] 48)).alloc (.cells #[.slice a1 n1 c1, .slice a2 n2 c2] 23)).cell? ⟨w.heap.size + 1, 0, none⟩ = some (.slice a1 n1 c1) := hBb.cell 0
  have p1 : ((w.alloc (.cells #[.slice a1 n1 c1, .slice a2 n2 c2, .int .i64 x3] 48)).alloc (.cells #[.slice a1 n1 c1, .slice a2 n2 c2] 23)).cell? ⟨w.heap.size + 1, 1, none⟩ = some (.slice a2 n2 c2) := hBb.cell 1
  have hWB := Lib.hid (hWb.out (.cells #[.slice a1 n1 c1, .slice a2 n2 c2, .int .i64 x3] 48) (.cells #[.slice a1 n1 c1, .slice a2 n2 c2] 23))
  clear hWb hWb1 hsz hA hBb
  generalize ((w.alloc (.cells #[.slice a1 n1 c1, .slice a2 n2 c2, .int .i64 x3] 48)).alloc (.cells #[.slice a1 n1 c1, .slice a2 n2 c2] 23)) = W at *
  go_loopw [30] (fun i wi => ∃ j : Nat, j ≤ 2 ∧ i = .int .i64 j ∧ Hid (0 < j → risF r1 = 0) ∧ Hid (1 < j → risF r2 = 0) ∧ wi = W) (fun i _ => 2 - (intOf i).toNat)
  case atStart => exact ⟨0, by omega, rfl, Lib.hid (fun h => by omega), Lib.hid (fun h => by omega), rfl⟩
  case round =>
    obtain ⟨j, hj, rfl, hz1, hz2, rfl⟩ := hrel
    by_cases j0 : j = 0
    · subst j0
      obtain ⟨q, hq⟩ : ∃ q, Hid (risF r1 = q) := ⟨_, Lib.hid rfl⟩
      by_cases hq0 : q = 0
      · have hg : ((q : Int) != 0) = false := by simp [hq0]
        have HQ0 := Lib.hid hq0
        clear hq0
        go_wp2_with (go_at_call 15; refine (RcheckWords_any n1 a1 c1 r1 _ _ (hφ.below hWB.out) s1 hn1 (by omega) hs1).mono ?_; rintro e w' ⟨rfl, rfl⟩; rw [hq.out])
        go_roundw
        case rel => exact ⟨1, by omega, by go_num, Lib.hid (fun _ => by rw [hq.out, HQ0.out]), Lib.hid (fun h => by omega), trivial⟩
        case measure => (simp [intOf] <;> omega)
      · have hg : ((q : Int) != 0) = true := by simp [hq0]
        have HQ0 := Lib.hid hq0
        clear hq0
        go_wp2_with (go_at_call 15; refine (RcheckWords_any n1 a1 c1 r1 _ _ (hφ.below hWB.out) s1 hn1 (by omega) hs1).mono ?_; rintro e w' ⟨rfl, rfl⟩; rw [hq.out])
        go_ret
        have pf : rulBad l (r1, r2, x3) = q := (by rw [hrb.out, if_neg z1.out, if_neg z2.out, if_pos (by rw [hq.out]; exact HQ0.out), hq.out])
        exact ⟨ret_int (by rw [← hrb0.out]; exact pf.symm), hWB.out⟩
    by_cases j1 : j = 1
    · subst j1
      obtain ⟨q, hq⟩ : ∃ q, Hid (risF r2 = q) := ⟨_, Lib.hid rfl⟩
      by_cases hq0 : q = 0
      · have hg : ((q : Int) != 0) = false := by simp [hq0]
        have HQ0 := Lib.hid hq0
        clear hq0
        go_wp2_with (go_at_call 15; refine (RcheckWords_any n2 a2 c2 r2 _ _ (hφ.below hWB.out) s2 hn2 (by omega) hs2).mono ?_; rintro e w' ⟨rfl, rfl⟩; rw [hq.out])
        go_roundw
        case rel => exact ⟨2, by omega, by go_num, Lib.hid (fun _ => hz1.out (by omega)), Lib.hid (fun _ => by rw [hq.out, HQ0.out]), trivial⟩
        case measure => (simp [intOf] <;> omega)
      · have hg : ((q : Int) != 0) = true := by simp [hq0]
        have HQ0 := Lib.hid hq0
        clear hq0
        go_wp2_with (go_at_call 15; refine (RcheckWords_any n2 a2 c2 r2 _ _ (hφ.below hWB.out) s2 hn2 (by omega) hs2).mono ?_; rintro e w' ⟨rfl, rfl⟩; rw [hq.out])
        go_ret
        have pf : rulBad l (r1, r2, x3) = q := (by rw [hrb.out, if_neg z1.out, if_neg z2.out, if_neg (by rw [hz1.out (by omega)]; simp), if_pos (by rw [hq.out]; exact HQ0.out), hq.out])
        exact ⟨ret_int (by rw [← hrb0.out]; exact pf.symm), hWB.out⟩
    obtain rfl : j = 2 := by omega
    have Z1 := Lib.hid (hz1.out (by omega))
    have Z2 := Lib.hid (hz2.out (by omega))
    obtain ⟨q, hq⟩ : ∃ q, Hid (ix l x3 = q) := ⟨_, Lib.hid rfl⟩
    cases q with
    | none =>
      have hf := fdI_none hq.out
      go_wp2_with (go_at_call 18; refine (find_any (hφ.below hWB.out) sN hFr x3).mono ?_; rintro e w' ⟨rfl, hb'⟩; rw [hf])
      go_ret
      exact ⟨ret_int (by rw [← hrb0.out, hrb.out, if_neg z1.out, if_neg z2.out, if_neg (by rw [Z1.out]; simp), if_neg (by rw [Z2.out]; simp), if_neg (by rw [hq.out]; simp)]), hWB.out.trans (hb'.mono hWB.out.size)⟩
    | some i =>
      have hf := fdI_some hq.out
      go_wp2_with (go_at_call 18; refine (find_any (hφ.below hWB.out) sN hFr x3).mono ?_; rintro e w' ⟨rfl, hb'⟩; rw [hf])
      go_ret
      exact ⟨ret_int (by rw [← hrb0.out, hrb.out, if_neg z1.out, if_neg z2.out, if_neg (by rw [Z1.out]; simp), if_neg (by rw [Z2.out]; simp), if_pos (by rw [hq.out]; rfl)]), hWB.out.trans (hb'.mono hWB.out.size)⟩
end Go.Proofs.Ytapkkplndhbapaa
