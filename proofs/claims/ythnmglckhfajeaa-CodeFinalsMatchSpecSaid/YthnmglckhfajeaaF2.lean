/- The walks of cases, on both sides. Conditions: none beyond what the claim form gives. -/
import Derived.Test.YthnmglckhfajeaaF1
import Derived.Test.YthnmglckhfajeaaStep
import Derived.Deep.RegionLaw
import Derived.Deep.AppendLies
namespace Go.Proofs.Ythnmglckhfajeaa
open Go.RowKit
set_option linter.unusedVariables false

theorem slCC : SliceTy Try.prog 75 27 (.slice none 0 0) (Rep.size Hdr) 24 := ⟨Try.underlying75, by kernel_rfl, rfl, by decide, by decide⟩
/-- The state of cases: the groups so far, the last one the call's own. -/
def CsSt (w0 : World) (φ0 : Phi) (gs : List (List Cdg)) (ao : Option Addr) (co : Nat) (wr : World) : Prop :=
  ∃ (φ : Phi) (hi : List Hdr) (ini : List (List Cdg)) (hs : List Hdr) (al : Option Addr) (cl : Nat) (la : List Cdg), φ0.le φ ∧ (∀ b, b < w0.heap.size → φ b = φ0 b) ∧ Ow2 w0 φ 27 32 ao co hs al cl la wr ∧ HdrL φ hi ini ∧
    ((gs = [] ∧ hs = [] ∧ hi = [] ∧ ini = [] ∧ la = []) ∨ (gs = ini ++ [la] ∧ hs = hi ++ [⟨al, la.length, cl⟩]))
theorem CsSt.start {w0 : World} {φ0 : Phi} (h : Fz φ0 w0) : CsSt w0 φ0 [] none 0 w0 :=
  ⟨φ0, [], [], [], none, 0, [], φ0.le_refl, fun _ _ => rfl, ⟨Inv.start h, Own.nil _ _ _ _, Own.nil _ _ _ _, fun _ _ h => by cases h⟩, trivial, .inl ⟨rfl, rfl, rfl, rfl, rfl⟩⟩
theorem CsSt.callB {w0 wr w' : World} {φ0 : Phi} {gs : List (List Cdg)} {ao : Option Addr} {co : Nat} (h : CsSt w0 φ0 gs ao co wr) (hb : Below wr.heap.size wr w') : CsSt w0 φ0 gs ao co w' := by
  obtain ⟨φ, hi, ini, hs, al, cl, la, h1, h2, h3, h4⟩ := h
  exact ⟨φ, hi, ini, hs, al, cl, la, h1, h2, h3.callB hb, h4⟩
theorem CsSt.fz {w0 wr : World} {φ0 : Phi} {gs : List (List Cdg)} {ao : Option Addr} {co : Nat} (h : CsSt w0 φ0 gs ao co wr) : Fz φ0 wr := by
  obtain ⟨φ, hi, ini, hs, al, cl, la, h1, h2, h3, h4⟩ := h; exact h3.inv.fz.sub h1
theorem CsSt.bel {w0 wr : World} {φ0 : Phi} {gs : List (List Cdg)} {ao : Option Addr} {co : Nat} (h : CsSt w0 φ0 gs ao co wr) : Below w0.heap.size w0 wr := by
  obtain ⟨φ, hi, ini, hs, al, cl, la, h1, h2, h3, h4⟩ := h; exact h3.inv.bel
/-- All groups complete. -/
theorem CsSt.fin {w0 wr : World} {φ0 : Phi} {gs : List (List Cdg)} {ao : Option Addr} {co : Nat} (h : CsSt w0 φ0 gs ao co wr) : ∃ φ', Inv w0.heap.size w0 φ0 φ' wr ∧ SlV φ' ao co gs := by
  obtain ⟨φ, hi, ini, hs, al, cl, la, h1, h2, h3, h4, h5⟩ := h
  obtain ⟨φ1, l1, n1, i1, o1, s1⟩ := h3.rel2
  obtain ⟨φ2, l2, i2, s2, _⟩ := o1.release i1
  refine ⟨φ2, ⟨i2.bel, i2.base, i2.fz, (h1.trans l1).trans l2, fun b hb => (i2.new b hb).trans ((n1 b hb).trans (h2 b hb))⟩, ?_⟩
  rcases h5 with ⟨rfl, rfl, _⟩ | ⟨rfl, rfl⟩
  · exact s2.ofHdr (gs := []) trivial
  · exact s2.ofHdr (HdrL.snoc ⟨s1.mono l2, rfl⟩ ((h4.mono l1).mono l2))
/-- A new group is laid: what the append of a nil header asks and gives. -/
theorem CsSt.open_ {w0 wr : World} {φ0 : Phi} {gs : List (List Cdg)} {ao : Option Addr} {co : Nat} (h : CsSt w0 φ0 gs ao co wr) : ∃ (φ : Phi) (hs : List Hdr), φ0.le φ ∧ (∀ b, b < w0.heap.size → φ b = φ0 b) ∧ hs.length = gs.length ∧ HdrL φ hs gs ∧ Inv w0.heap.size w0 φ φ wr ∧ Own w0.heap.size φ wr 27 ao co hs := by
  obtain ⟨φ, hi, ini, hs, al, cl, la, h1, h2, h3, h4, h5⟩ := h
  obtain ⟨φ1, l1, n1, i1, o1, s1⟩ := h3.rel2
  have hg : HdrL φ1 hs gs := by
    rcases h5 with ⟨rfl, rfl, _⟩ | ⟨rfl, rfl⟩
    · trivial
    · exact HdrL.snoc ⟨s1, rfl⟩ (h4.mono l1)
  exact ⟨φ1, hs, h1.trans l1, fun b hb => (n1 b hb).trans (h2 b hb), hg.len, hg, i1, o1⟩
theorem far {w w' : World} {b o : Nat} (h : w'.heap[b]? = w.heap[b]?) : w'.cell? ⟨b, o, none⟩ = w.cell? ⟨b, o, none⟩ ∧ w'.frozen? ⟨b, o, none⟩ = w.frozen? ⟨b, o, none⟩ := by
  unfold World.cell? World.frozen?
  dsimp only
  rw [h]; exact ⟨rfl, rfl⟩
theorem rowne {a : Option Addr} {g : Nat} (h : ∀ y, a = some y → y.block ≠ g) : some g ≠ a.map (·.block) := by
  cases a with
  | none => simp
  | some y => simpa using (h y rfl).symm
def SlPostL {α : Type} [Rep α] (xs : List α) (φ : Phi) (w : World) (e : Ending) (w' : World) : Prop :=
  ∃ a cap φ', e = .returned (.slice a xs.length cap) ∧ Inv w.heap.size w φ φ' w' ∧ SlV φ' a cap xs
set_option maxRecDepth 100000 in
set_option maxHeartbeats 2000000 in
theorem cases_any {w : World} {ac : Option Addr} {cc nc : Nat} {cs : List Cdg} {φ : Phi} (hφ : Fz φ w) (sc : SlV φ ac cc cs) (hnc : Hid (cs.length = nc)) (hn2 : nc ≤ 20000) :
    Calls Try.prog 32 #[.slice ac nc cc] w (SlPostL (grpK cs nc) φ w) := by
  have hSt : Hid (CsSt w φ (grpK cs 0) none 0 w) := Lib.hid (CsSt.start hφ)
  go_enter Try.func32, Try.ntmps32
  go_wp2
  go_loopw [3, 8] (fun o i wr => ∃ (k ng : Nat) (ao : Option Addr) (co : Nat), k ≤ nc ∧ i = .int .i64 k ∧ o = .slice ao ng co ∧ Hid ((grpK cs k).length = ng) ∧ Hid (CsSt w φ (grpK cs k) ao co wr)) (fun _ i _ => nc - (intOf i).toNat)
  case atStart => exact ⟨0, 0, none, 0, Nat.zero_le _, rfl, rfl, Lib.hid rfl, hSt⟩
  case round =>
    clear hSt
    obtain ⟨k, ng, ao, co, hk, rfl, rfl, hng, hSt⟩ := hrel
    by_cases hlt : k < nc
    · obtain ⟨b, off, rfl, f⟩ := sc.cdgD hnc hlt
      obtain ⟨hb, d1, d2, d3⟩ := f k hlt wr hSt.out.fz
      have HP := Lib.hid (fun h : 0 < k => (f (k - 1) (by omega) wr hSt.out.fz).2.1)
      have hgk : Hid (grpK cs (k + 1) = if k = 0 ∨ (cs.getD k cdg0).1 ≠ (cs.getD (k - 1) cdg0).1 then grpK cs k ++ [[cs.getD k cdg0]] else (grpK cs k).dropLast ++ [(grpK cs k).getLastD [] ++ [cs.getD k cdg0]]) := Lib.hid rfl
      have hgo := Lib.hid (grpK_ok cs k (by rw [hnc.out]; omega))
      have hngk : ng ≤ 20000 := by have := hgo.out.2.1; rw [hng.out] at this; omega
      clear f
      generalize (cs.getD (k - 1) cdg0).1 = y1 at *
      generalize hX : cs.getD k cdg0 = X at *
      obtain ⟨x1, x2, x3⟩ := X
      replace hX := Lib.hid hX
      dsimp only at d1 d2 d3
      have hB0 := Lib.hid (Blk.new wr #[.int .i64 x1, .int .i64 x2, .int .i64 x3] 32)
      have hbx0 := Lib.hid (box_at (w := wr) (cs := #[.int .i64 x1, .int .i64 x2, .int .i64 x3]) (T := 32) 0)
      by_cases hnew : k = 0 ∨ x1 ≠ y1
      · have hg1 : Hid (grpK cs (k + 1) = grpK cs k ++ [[(x1, x2, x3)]]) := Lib.hid (by rw [hgk.out, if_pos hnew])
        obtain ⟨φ1, hs, hle1, hnw1, hhl, hhd1, hi1, ho1⟩ := (hSt.out.callB ((Below.refl _ _).alloc (Nat.le_refl _) (.cells #[.int .i64 x1, .int .i64 x2, .int .i64 x3] 32))).open_
        have hao : Hid (∀ x, ao = some x → x.block < wr.heap.size) := Lib.hid (by obtain ⟨_, _, _, _, _, _, _, _, _, hs, _⟩ := hSt.out; exact fun x hx => (hs.o1.lt x hx).2)
        have HI1 := Lib.hid hi1
        have HO1 := Lib.hid ho1
        have HLE := Lib.hid hle1
        have HNW := Lib.hid hnw1
        have HHD := Lib.hid hhd1
        have hhl2 : Hid (hs.length = ng) := Lib.hid (hhl.trans hng.out)
        clear hi1 ho1 hle1 hnw1 hhd1 hhl hSt
        by_cases h0 : k = 0
        · have h0i : ((k : Int) == 0) = true := by simp [h0]
          have H0 := Lib.hid h0
          clear h0 hnew
          go_wp2
          go_quiet (fail)
          have hinq := HI1.out.drewN nq
          have honq := HO1.out.drewN nq
          have hBq : Hid (Blk ((wr.alloc (.cells #[.int .i64 x1, .int .i64 x2, .int .i64 x3] 32)).drewN nq) wr.heap.size #[.int .i64 x1, .int .i64 x2, .int .i64 x3] 32) := Lib.hid hB0.out
          clear HI1 HO1 d1 d2 d3 hb 
          generalize (wr.alloc (.cells #[.int .i64 x1, .int .i64 x2, .int .i64 x3] 32)).drewN nq = wj at *
          generalize wr.heap.size = bx at *
          rw [← hhl2.out]
          have hhl3 : hs.length ≤ 20000 := by rw [hhl2.out]; omega
          go_wp2_with (at_builtin; (refine wpList_app1F (α := Hdr) rfl _ _ 75 rfl slCC hinq ao co _ honq _ _ hdr0 rfl rfl 1 rfl (by omega) ?_); intro a2 c2 w4 hi4 ho4 hg4 hf4)
          obtain ⟨nh, hnh⟩ : ∃ nh, hs.length = nh := ⟨_, rfl⟩
          obtain ⟨N, hN⟩ : ∃ N, N = nh + 1 := ⟨_, rfl⟩
          have hl6 : Hid ((hs ++ [hdr0]).length = N) := Lib.hid (by simp [hnh, hN])
          have hhd : Hid ((hs ++ [hdr0]).getD nh hdr0 = hdr0) := Lib.hid (by rw [← hnh]; simp)
          have hS6 : Hid (Ow2 w φ1 27 32 a2 c2 (hs ++ [hdr0]) none 0 ([] : List Cdg) w4) := Lib.hid ⟨hi4, ho4, Own.nil _ _ _ _, fun _ _ _ h => by cases h⟩
          have hBj : Hid (Blk w4 bx #[.int .i64 x1, .int .i64 x2, .int .i64 x3] 32) := Lib.hid ((hg4.block bx (by have := hBq.out.lt; simp; omega) (fun e => by
            cases ao with
            | none => cases e
            | some z => have := hao.out z rfl; simp at e; omega)).trans (hBq.out.alloc _))
          have hnh2 := Lib.hid hnh
          rw [hnh] at hhl3
          rw [show hs.length + 1 = N by rw [hnh, hN]]
          clear hi4 ho4 hg4 hf4 hinq honq hBq hnh
          have HN := Lib.hid hN
          obtain ⟨g, hga, hgB, hgl, hgf, hgc, hgz, _⟩ := hS6.out.o1.hdrD hl6 (k := nh) (by omega)
          subst hga
          have hb0 : w4.cell? ⟨bx, 0, none⟩ = some (.int .i64 x1) := hBj.out.cell 0
          have hb1 : w4.cell? ⟨bx, 1, none⟩ = some (.int .i64 x2) := hBj.out.cell 1
          have hb2 : w4.cell? ⟨bx, 2, none⟩ = some (.int .i64 x3) := hBj.out.cell 2
          have hblt := hBj.out.lt
          have hw1 : IntKind.i64.wrap ((N : Int) - 1) = nh := by rw [IntWalk.i64_in _ (by omega)]; omega
          have hi1 : (nh : Int) < (N : Int) := by omega
          have hi2 : (0 : Int) ≤ (nh : Int) := by omega
          rw [hhd.out] at hgc
          dsimp only at hgc
          clear hN
          have hlg : Hid ((∀ y, (none : Option Addr) = some y → y.block ≠ g ∧ y.block ≠ bx)) := Lib.hid (fun y hy => ⟨fun e => hS6.out.ne _ y rfl hy e.symm, (by cases hy)⟩)
          have hfz : ∀ o, (w4.alloc o).frozen? ⟨g, nh, none⟩ = false := fun o => (((Below.refl _ _).alloc (Nat.le_refl _) o).frozen (p := ⟨g, nh, none⟩) hgl).trans hgz
          have hfd : ∀ o, (w4.alloc o).drew.frozen? ⟨g, nh, none⟩ = false := hfz
          go_region_law ((refine step_appF (α := Cdg) (by rfl) _ _ _ (by rfl) slC (hS6.out.alloc _).inv.drew (none : Option Addr) 0 _ (by rfl) (hS6.out.alloc _).o2.drew ⟨w4.heap.size, 0, none⟩ 1 [(x1, x2, x3)] [.int .i64 x1, .int .i64 x2, .int .i64 x3] 1 (by rfl) (by rfl) (RepL.single ⟨[.int .i64 x1], [.int .i64 x2, .int .i64 x3], rfl, rfl, [.int .i64 x2], [.int .i64 x3], rfl, rfl, rfl⟩) (World.news_of_block (cs := #[.int .i64 x1, .int .i64 x2, .int .i64 x3]) (t := 32) (fr := (0, 0)) (heap_alloc_new w4 _)) (by show (([] : List Cdg).length + 1) * 24 ≤ 140737488355328; (try simp only [List.length_nil]); omega) ?_; intro a3 c3 w5 hi5 ho5 hg5 hf5; have hS7 := (((hS6.out.alloc (.cells #[.int .i64 x1, .int .i64 x2, .int .i64 x3] 32)).drewN 1).swap.step1 hi5 ho5 hg5 hf5).swap; have HS7 := Lib.hid hS7; have kg := far (o := nh) (hg5.block g (by simp; omega) (rowne (fun y hy => (hlg.out y hy).1))); have kb := fun o => far (o := o) (hg5.block bx (by simp; omega) (rowne (fun y hy => (hlg.out y hy).2))); have k0 : w5.cell? ⟨g, nh, none⟩ = some (.slice (none : Option Addr) ([] : List Cdg).length 0) := kg.1.trans (((Below.refl _ _).alloc (Nat.le_refl _) _).cell (p := ⟨g, nh, none⟩) hgl |>.trans hgc); have k1 : w5.frozen? ⟨g, nh, none⟩ = false := kg.2.trans (((Below.refl _ _).alloc (Nat.le_refl _) _).frozen (p := ⟨g, nh, none⟩) hgl |>.trans hgz); have k2 : w5.cell? ⟨bx, 0, none⟩ = some (.int .i64 x1) := (kb 0).1.trans (((Below.refl _ _).alloc (Nat.le_refl _) _).cell (p := ⟨bx, 0, none⟩) hblt |>.trans hb0); have k3 : w5.cell? ⟨bx, 1, none⟩ = some (.int .i64 x2) := (kb 1).1.trans (((Below.refl _ _).alloc (Nat.le_refl _) _).cell (p := ⟨bx, 1, none⟩) hblt |>.trans hb1); have k4 : w5.cell? ⟨bx, 2, none⟩ = some (.int .i64 x3) := (kb 2).1.trans (((Below.refl _ _).alloc (Nat.le_refl _) _).cell (p := ⟨bx, 2, none⟩) hblt |>.trans hb2); clear hS7 hi5 ho5 hg5 hf5 kg kb))
          clear hw1 hfz hfd
          all_goals
            obtain ⟨g', hga', hgB', hgl', hgf', hgc', hgz', hset⟩ := HS7.out.o1.hdrD hl6 (k := nh) (by have := HN.out; omega)
            cases hga'
            have hfin := Lib.hid (hset ⟨a3, ([] : List Cdg).length + 1, c3⟩ w φ1 HS7.out.inv)
            clear hset
            have hS8 := Lib.hid (HS7.out.put1 hfin.out.1 hfin.out.2)
            go_wp2
            go_roundw
            case rel =>
              refine ⟨k + 1, N, _, c2, by omega, by go_num, rfl, Lib.hid (by rw [hg1.out, List.length_append, hng.out, ← hhl2.out, hnh2.out, HN.out]; rfl), Lib.hid ⟨φ1, hs, grpK cs k, _, a3, c3, [(x1, x2, x3)], HLE.out, HNW.out, hS8.out, HHD.out, .inr ⟨hg1.out, ?_⟩⟩⟩
              rw [← hnh2.out]; simp
            case measure => simp [intOf]; omega
        · have h0i : ((k : Int) == 0) = false := by simp [h0]
          have hne : (x1 != y1) = true := by have := hnew.resolve_left h0; simpa using this
          have hpp := HP.out (by omega)
          have hpp' : (wr.alloc (.cells #[.int .i64 x1, .int .i64 x2, .int .i64 x3] 32)).cell? ⟨b, off + (k - 1) * 3, none⟩ = some (.int .i64 y1) := (((Below.refl wr.heap.size wr).alloc (Nat.le_refl _) _).cell (p := ⟨b, off + (k - 1) * 3, none⟩) hb).trans hpp
          have hb0' : (wr.alloc (.cells #[.int .i64 x1, .int .i64 x2, .int .i64 x3] 32)).cell? ⟨wr.heap.size, 0, none⟩ = some (.int .i64 x1) := box_at 0
          have hix : 0 ≤ (k : Int) - 1 := by omega
          have hix2 : (k : Int) - 1 < nc := by omega
          have hw0 : IntKind.i64.wrap ((k : Int) - 1) = k - 1 := IntWalk.i64_in _ (by omega)
          have hto : ((k : Int) - 1).toNat = k - 1 := by omega
          clear hnew
          go_wp2
          go_quiet (fail)
          have hinq := HI1.out.drewN nq
          have honq := HO1.out.drewN nq
          have hBq : Hid (Blk ((wr.alloc (.cells #[.int .i64 x1, .int .i64 x2, .int .i64 x3] 32)).drewN nq) wr.heap.size #[.int .i64 x1, .int .i64 x2, .int .i64 x3] 32) := Lib.hid hB0.out
          clear HI1 HO1 d1 d2 d3 hb hpp hpp' hb0' hw0 hto
          generalize (wr.alloc (.cells #[.int .i64 x1, .int .i64 x2, .int .i64 x3] 32)).drewN nq = wj at *
          generalize wr.heap.size = bx at *
          rw [← hhl2.out]
          have hhl3 : hs.length ≤ 20000 := by rw [hhl2.out]; omega
          go_wp2_with (at_builtin; (refine wpList_app1F (α := Hdr) rfl _ _ 75 rfl slCC hinq ao co _ honq _ _ hdr0 rfl rfl 1 rfl (by omega) ?_); intro a2 c2 w4 hi4 ho4 hg4 hf4)
          obtain ⟨nh, hnh⟩ : ∃ nh, hs.length = nh := ⟨_, rfl⟩
          obtain ⟨N, hN⟩ : ∃ N, N = nh + 1 := ⟨_, rfl⟩
          have hl6 : Hid ((hs ++ [hdr0]).length = N) := Lib.hid (by simp [hnh, hN])
          have hhd : Hid ((hs ++ [hdr0]).getD nh hdr0 = hdr0) := Lib.hid (by rw [← hnh]; simp)
          have hS6 : Hid (Ow2 w φ1 27 32 a2 c2 (hs ++ [hdr0]) none 0 ([] : List Cdg) w4) := Lib.hid ⟨hi4, ho4, Own.nil _ _ _ _, fun _ _ _ h => by cases h⟩
          have hBj : Hid (Blk w4 bx #[.int .i64 x1, .int .i64 x2, .int .i64 x3] 32) := Lib.hid ((hg4.block bx (by have := hBq.out.lt; simp; omega) (fun e => by
            cases ao with
            | none => cases e
            | some z => have := hao.out z rfl; simp at e; omega)).trans (hBq.out.alloc _))
          have hnh2 := Lib.hid hnh
          rw [hnh] at hhl3
          rw [show hs.length + 1 = N by rw [hnh, hN]]
          clear hi4 ho4 hg4 hf4 hinq honq hBq hnh
          have HN := Lib.hid hN
          obtain ⟨g, hga, hgB, hgl, hgf, hgc, hgz, _⟩ := hS6.out.o1.hdrD hl6 (k := nh) (by omega)
          subst hga
          have hb0 : w4.cell? ⟨bx, 0, none⟩ = some (.int .i64 x1) := hBj.out.cell 0
          have hb1 : w4.cell? ⟨bx, 1, none⟩ = some (.int .i64 x2) := hBj.out.cell 1
          have hb2 : w4.cell? ⟨bx, 2, none⟩ = some (.int .i64 x3) := hBj.out.cell 2
          have hblt := hBj.out.lt
          have hw1 : IntKind.i64.wrap ((N : Int) - 1) = nh := by rw [IntWalk.i64_in _ (by omega)]; omega
          have hi1 : (nh : Int) < (N : Int) := by omega
          have hi2 : (0 : Int) ≤ (nh : Int) := by omega
          rw [hhd.out] at hgc
          dsimp only at hgc
          clear hN
          have hlg : Hid ((∀ y, (none : Option Addr) = some y → y.block ≠ g ∧ y.block ≠ bx)) := Lib.hid (fun y hy => ⟨fun e => hS6.out.ne _ y rfl hy e.symm, (by cases hy)⟩)
          have hfz : ∀ o, (w4.alloc o).frozen? ⟨g, nh, none⟩ = false := fun o => (((Below.refl _ _).alloc (Nat.le_refl _) o).frozen (p := ⟨g, nh, none⟩) hgl).trans hgz
          have hfd : ∀ o, (w4.alloc o).drew.frozen? ⟨g, nh, none⟩ = false := hfz
          go_region_law ((refine step_appF (α := Cdg) (by rfl) _ _ _ (by rfl) slC (hS6.out.alloc _).inv.drew (none : Option Addr) 0 _ (by rfl) (hS6.out.alloc _).o2.drew ⟨w4.heap.size, 0, none⟩ 1 [(x1, x2, x3)] [.int .i64 x1, .int .i64 x2, .int .i64 x3] 1 (by rfl) (by rfl) (RepL.single ⟨[.int .i64 x1], [.int .i64 x2, .int .i64 x3], rfl, rfl, [.int .i64 x2], [.int .i64 x3], rfl, rfl, rfl⟩) (World.news_of_block (cs := #[.int .i64 x1, .int .i64 x2, .int .i64 x3]) (t := 32) (fr := (0, 0)) (heap_alloc_new w4 _)) (by show (([] : List Cdg).length + 1) * 24 ≤ 140737488355328; (try simp only [List.length_nil]); omega) ?_; intro a3 c3 w5 hi5 ho5 hg5 hf5; have hS7 := (((hS6.out.alloc (.cells #[.int .i64 x1, .int .i64 x2, .int .i64 x3] 32)).drewN 1).swap.step1 hi5 ho5 hg5 hf5).swap; have HS7 := Lib.hid hS7; have kg := far (o := nh) (hg5.block g (by simp; omega) (rowne (fun y hy => (hlg.out y hy).1))); have kb := fun o => far (o := o) (hg5.block bx (by simp; omega) (rowne (fun y hy => (hlg.out y hy).2))); have k0 : w5.cell? ⟨g, nh, none⟩ = some (.slice (none : Option Addr) ([] : List Cdg).length 0) := kg.1.trans (((Below.refl _ _).alloc (Nat.le_refl _) _).cell (p := ⟨g, nh, none⟩) hgl |>.trans hgc); have k1 : w5.frozen? ⟨g, nh, none⟩ = false := kg.2.trans (((Below.refl _ _).alloc (Nat.le_refl _) _).frozen (p := ⟨g, nh, none⟩) hgl |>.trans hgz); have k2 : w5.cell? ⟨bx, 0, none⟩ = some (.int .i64 x1) := (kb 0).1.trans (((Below.refl _ _).alloc (Nat.le_refl _) _).cell (p := ⟨bx, 0, none⟩) hblt |>.trans hb0); have k3 : w5.cell? ⟨bx, 1, none⟩ = some (.int .i64 x2) := (kb 1).1.trans (((Below.refl _ _).alloc (Nat.le_refl _) _).cell (p := ⟨bx, 1, none⟩) hblt |>.trans hb1); have k4 : w5.cell? ⟨bx, 2, none⟩ = some (.int .i64 x3) := (kb 2).1.trans (((Below.refl _ _).alloc (Nat.le_refl _) _).cell (p := ⟨bx, 2, none⟩) hblt |>.trans hb2); clear hS7 hi5 ho5 hg5 hf5 kg kb))
          clear hw1 hfz hfd
          all_goals
            obtain ⟨g', hga', hgB', hgl', hgf', hgc', hgz', hset⟩ := HS7.out.o1.hdrD hl6 (k := nh) (by have := HN.out; omega)
            cases hga'
            have hfin := Lib.hid (hset ⟨a3, ([] : List Cdg).length + 1, c3⟩ w φ1 HS7.out.inv)
            clear hset
            have hS8 := Lib.hid (HS7.out.put1 hfin.out.1 hfin.out.2)
            go_wp2
            go_roundw
            case rel =>
              refine ⟨k + 1, N, _, c2, by omega, by go_num, rfl, Lib.hid (by rw [hg1.out, List.length_append, hng.out, ← hhl2.out, hnh2.out, HN.out]; rfl), Lib.hid ⟨φ1, hs, grpK cs k, _, a3, c3, [(x1, x2, x3)], HLE.out, HNW.out, hS8.out, HHD.out, .inr ⟨hg1.out, ?_⟩⟩⟩
              rw [← hnh2.out]; simp
            case measure => simp [intOf]; omega
      · have hg1 : Hid (grpK cs (k + 1) = (grpK cs k).dropLast ++ [(grpK cs k).getLastD [] ++ [(x1, x2, x3)]]) := Lib.hid (by rw [hgk.out, if_neg hnew])
        have hk0 : 0 < k := by omega
        have h0i : ((k : Int) == 0) = false := by simp; omega
        have hne : (x1 != y1) = false := by
          have : x1 = y1 := Classical.not_not.1 (fun h => hnew (.inr h))
          simp [this]
        have hpp := HP.out hk0
        have hpp' : (wr.alloc (.cells #[.int .i64 x1, .int .i64 x2, .int .i64 x3] 32)).cell? ⟨b, off + (k - 1) * 3, none⟩ = some (.int .i64 y1) := (((Below.refl wr.heap.size wr).alloc (Nat.le_refl _) _).cell (p := ⟨b, off + (k - 1) * 3, none⟩) hb).trans hpp
        have hb0' : (wr.alloc (.cells #[.int .i64 x1, .int .i64 x2, .int .i64 x3] 32)).cell? ⟨wr.heap.size, 0, none⟩ = some (.int .i64 x1) := box_at 0
        have hix : 0 ≤ (k : Int) - 1 := by omega
        have hix2 : (k : Int) - 1 < nc := by omega
        have hw0 : IntKind.i64.wrap ((k : Int) - 1) = k - 1 := IntWalk.i64_in _ (by omega)
        have hto : ((k : Int) - 1).toNat = k - 1 := by omega
        clear hnew
        go_wp2
        go_quiet (fail)
        go_wp2
        clear hw0 hto hpp hpp' hb0'
        have hSx := hSt.out
        obtain ⟨φ1, hi, ini, hs, al, cl, la, hle1, hnw1, hS, hhd1, ⟨hgz, _⟩ | ⟨hgs, hhs⟩⟩ := hSx
        · exact absurd hgz (hgo.out.2.2 hk0)
        have hal : Hid (∀ y, al = some y → y.block < wr.heap.size) := Lib.hid (fun y hy => (hS.o2.lt y hy).2)
        have hlast : Hid ((grpK cs k).getLastD [] = la ∧ (grpK cs k).dropLast = ini) := Lib.hid (by rw [hgs]; simp)
        have hla : la.length ≤ 20000 := by have := (hgo.out.1 la (by rw [hgs]; simp)).2.1; omega
        obtain ⟨nh, rfl⟩ : ∃ nh, ng = nh + 1 := ⟨ng - 1, by have := hng.out; rw [hgs] at this; simp at this; omega⟩
        have hnhi : hi.length = nh := by have := hng.out; rw [hgs] at this; simp at this; rw [hhd1.len]; omega
        obtain ⟨N, hN⟩ : ∃ N, nh + 1 = N := ⟨_, rfl⟩
        rw [hN]
        have hl6 : Hid (hs.length = N) := Lib.hid (by rw [hhs]; simp [hnhi, hN])
        have HN := Lib.hid hN
        have hhd : Hid (hs.getD nh hdr0 = ⟨al, la.length, cl⟩) := Lib.hid (by rw [hhs, ← hnhi]; simp)
        have hS6 : Hid (Ow2 w φ1 27 32 ao co hs al cl la ((wr.alloc (.cells #[.int .i64 x1, .int .i64 x2, .int .i64 x3] 32)).drewN nq)) := Lib.hid ((hS.alloc _).drewN nq)
        have hBj : Hid (Blk ((wr.alloc (.cells #[.int .i64 x1, .int .i64 x2, .int .i64 x3] 32)).drewN nq) wr.heap.size #[.int .i64 x1, .int .i64 x2, .int .i64 x3] 32) := Lib.hid hB0.out
        have HHS := Lib.hid (And.intro hhs (And.intro hgs hnhi))
        have HLE := Lib.hid hle1
        have HNW := Lib.hid hnw1
        have HHD := Lib.hid hhd1
        clear hS hhs hgs hnhi hle1 hnw1 hhd1 hSt d1 d2 d3 hb
        generalize (wr.alloc (.cells #[.int .i64 x1, .int .i64 x2, .int .i64 x3] 32)).drewN nq = wj at *
        generalize wr.heap.size = bx at *
        obtain ⟨g, hga, hgB, hgl, hgf, hgc, hgz, _⟩ := hS6.out.o1.hdrD hl6 (k := nh) (by omega)
        subst hga
        have hb0 : wj.cell? ⟨bx, 0, none⟩ = some (.int .i64 x1) := hBj.out.cell 0
        have hb1 : wj.cell? ⟨bx, 1, none⟩ = some (.int .i64 x2) := hBj.out.cell 1
        have hb2 : wj.cell? ⟨bx, 2, none⟩ = some (.int .i64 x3) := hBj.out.cell 2
        have hblt := hBj.out.lt
        have hw1 : IntKind.i64.wrap ((N : Int) - 1) = nh := by rw [IntWalk.i64_in _ (by omega)]; omega
        have hi1 : (nh : Int) < (N : Int) := by omega
        have hi2 : (0 : Int) ≤ (nh : Int) := by omega
        rw [hhd.out] at hgc
        dsimp only at hgc
        clear hN
        have hlg : Hid ((∀ y, al = some y → y.block ≠ g ∧ y.block ≠ bx)) := Lib.hid (fun y hy => ⟨fun e => hS6.out.ne _ y rfl hy e.symm, by have := hal.out y hy; omega⟩)
        have hfz : ∀ o, (wj.alloc o).frozen? ⟨g, nh, none⟩ = false := fun o => (((Below.refl _ _).alloc (Nat.le_refl _) o).frozen (p := ⟨g, nh, none⟩) hgl).trans hgz
        have hfd : ∀ o, (wj.alloc o).drew.frozen? ⟨g, nh, none⟩ = false := hfz
        go_region_law ((refine step_appF (α := Cdg) (by rfl) _ _ _ (by rfl) slC (hS6.out.alloc _).inv.drew al cl _ (by rfl) (hS6.out.alloc _).o2.drew ⟨wj.heap.size, 0, none⟩ 1 [(x1, x2, x3)] [.int .i64 x1, .int .i64 x2, .int .i64 x3] 1 (by rfl) (by rfl) (RepL.single ⟨[.int .i64 x1], [.int .i64 x2, .int .i64 x3], rfl, rfl, [.int .i64 x2], [.int .i64 x3], rfl, rfl, rfl⟩) (World.news_of_block (cs := #[.int .i64 x1, .int .i64 x2, .int .i64 x3]) (t := 32) (fr := (0, 0)) (heap_alloc_new wj _)) (by show (la.length + 1) * 24 ≤ 140737488355328; (try simp only [List.length_nil]); omega) ?_; intro a3 c3 w5 hi5 ho5 hg5 hf5; have hS7 := (((hS6.out.alloc (.cells #[.int .i64 x1, .int .i64 x2, .int .i64 x3] 32)).drewN 1).swap.step1 hi5 ho5 hg5 hf5).swap; have HS7 := Lib.hid hS7; have kg := far (o := nh) (hg5.block g (by simp; omega) (rowne (fun y hy => (hlg.out y hy).1))); have kb := fun o => far (o := o) (hg5.block bx (by simp; omega) (rowne (fun y hy => (hlg.out y hy).2))); have k0 : w5.cell? ⟨g, nh, none⟩ = some (.slice al la.length cl) := kg.1.trans (((Below.refl _ _).alloc (Nat.le_refl _) _).cell (p := ⟨g, nh, none⟩) hgl |>.trans hgc); have k1 : w5.frozen? ⟨g, nh, none⟩ = false := kg.2.trans (((Below.refl _ _).alloc (Nat.le_refl _) _).frozen (p := ⟨g, nh, none⟩) hgl |>.trans hgz); have k2 : w5.cell? ⟨bx, 0, none⟩ = some (.int .i64 x1) := (kb 0).1.trans (((Below.refl _ _).alloc (Nat.le_refl _) _).cell (p := ⟨bx, 0, none⟩) hblt |>.trans hb0); have k3 : w5.cell? ⟨bx, 1, none⟩ = some (.int .i64 x2) := (kb 1).1.trans (((Below.refl _ _).alloc (Nat.le_refl _) _).cell (p := ⟨bx, 1, none⟩) hblt |>.trans hb1); have k4 : w5.cell? ⟨bx, 2, none⟩ = some (.int .i64 x3) := (kb 2).1.trans (((Below.refl _ _).alloc (Nat.le_refl _) _).cell (p := ⟨bx, 2, none⟩) hblt |>.trans hb2); clear hS7 hi5 ho5 hg5 hf5 kg kb))
        clear hw1 hfz hfd
        all_goals
          obtain ⟨g', hga', hgB', hgl', hgf', hgc', hgz', hset⟩ := HS7.out.o1.hdrD hl6 (k := nh) (by have := HN.out; omega)
          cases hga'
          have hfin := Lib.hid (hset ⟨a3, la.length + 1, c3⟩ w φ1 HS7.out.inv)
          clear hset
          have hS8 := Lib.hid (HS7.out.put1 hfin.out.1 hfin.out.2)
          go_wp2
          go_roundw
          case rel =>
            refine ⟨k + 1, N, _, co, by omega, by go_num, rfl, Lib.hid ?_, Lib.hid ⟨φ1, hi, ini, _, a3, c3, la ++ [(x1, x2, x3)], HLE.out, HNW.out, hS8.out, HHD.out, .inr ⟨?_, ?_⟩⟩⟩
            · rw [hg1.out, hlast.out.2]; have := HHS.out.2.2; rw [HHD.out.len] at this; have := HN.out; simp; omega
            · rw [hg1.out, hlast.out.1, hlast.out.2]
            · rw [HHS.out.1, ← HHS.out.2.2]; simp
          case measure => simp [intOf]; omega
    · obtain rfl : k = nc := by omega
      go_wp2
      go_ret
      obtain ⟨φ', h1, h2⟩ := hSt.out.fin
      rw [← hng.out]
      exact ⟨ao, co, φ', rfl, h1, h2⟩
set_option maxRecDepth 100000 in
set_option maxHeartbeats 2000000 in
theorem Rcases_any {w : World} {ac : Option Addr} {cc nc : Nat} {cs : List Cdg} {φ : Phi} (hφ : Fz φ w) (sc : SlV φ ac cc cs) (hnc : Hid (cs.length = nc)) (hn2 : nc ≤ 20000) :
    Calls Try.prog 34 #[.slice ac nc cc] w (SlPostL (grpK cs nc) φ w) := by
  have hSt : Hid (CsSt w φ (grpK cs 0) none 0 w) := Lib.hid (CsSt.start hφ)
  go_enter Try.func34, Try.ntmps34
  go_wp2
  go_loopw [3, 8] (fun o i wr => ∃ (k ng : Nat) (ao : Option Addr) (co : Nat), k ≤ nc ∧ i = .int .i64 k ∧ o = .slice ao ng co ∧ Hid ((grpK cs k).length = ng) ∧ Hid (CsSt w φ (grpK cs k) ao co wr)) (fun _ i _ => nc - (intOf i).toNat)
  case atStart => exact ⟨0, 0, none, 0, Nat.zero_le _, rfl, rfl, Lib.hid rfl, hSt⟩
  case round =>
    clear hSt
    obtain ⟨k, ng, ao, co, hk, rfl, rfl, hng, hSt⟩ := hrel
    by_cases hlt : k < nc
    · obtain ⟨b, off, rfl, f⟩ := sc.cdgD hnc hlt
      obtain ⟨hb, d1, d2, d3⟩ := f k hlt wr hSt.out.fz
      have HP := Lib.hid (fun h : 0 < k => (f (k - 1) (by omega) wr hSt.out.fz).2.1)
      have hgk : Hid (grpK cs (k + 1) = if k = 0 ∨ (cs.getD k cdg0).1 ≠ (cs.getD (k - 1) cdg0).1 then grpK cs k ++ [[cs.getD k cdg0]] else (grpK cs k).dropLast ++ [(grpK cs k).getLastD [] ++ [cs.getD k cdg0]]) := Lib.hid rfl
      have hgo := Lib.hid (grpK_ok cs k (by rw [hnc.out]; omega))
      have hngk : ng ≤ 20000 := by have := hgo.out.2.1; rw [hng.out] at this; omega
      clear f
      generalize (cs.getD (k - 1) cdg0).1 = y1 at *
      generalize hX : cs.getD k cdg0 = X at *
      obtain ⟨x1, x2, x3⟩ := X
      replace hX := Lib.hid hX
      dsimp only at d1 d2 d3
      have hB0 := Lib.hid (Blk.new wr #[.int .i64 x1, .int .i64 x2, .int .i64 x3] 32)
      have hbx0 := Lib.hid (box_at (w := wr) (cs := #[.int .i64 x1, .int .i64 x2, .int .i64 x3]) (T := 32) 0)
      by_cases hnew : k = 0 ∨ x1 ≠ y1
      · have hg1 : Hid (grpK cs (k + 1) = grpK cs k ++ [[(x1, x2, x3)]]) := Lib.hid (by rw [hgk.out, if_pos hnew])
        obtain ⟨φ1, hs, hle1, hnw1, hhl, hhd1, hi1, ho1⟩ := (hSt.out.callB ((Below.refl _ _).alloc (Nat.le_refl _) (.cells #[.int .i64 x1, .int .i64 x2, .int .i64 x3] 32))).open_
        have hao : Hid (∀ x, ao = some x → x.block < wr.heap.size) := Lib.hid (by obtain ⟨_, _, _, _, _, _, _, _, _, hs, _⟩ := hSt.out; exact fun x hx => (hs.o1.lt x hx).2)
        have HI1 := Lib.hid hi1
        have HO1 := Lib.hid ho1
        have HLE := Lib.hid hle1
        have HNW := Lib.hid hnw1
        have HHD := Lib.hid hhd1
        have hhl2 : Hid (hs.length = ng) := Lib.hid (hhl.trans hng.out)
        clear hi1 ho1 hle1 hnw1 hhd1 hhl hSt
        by_cases h0 : k = 0
        · have h0i : ((k : Int) == 0) = true := by simp [h0]
          have H0 := Lib.hid h0
          clear h0 hnew
          go_wp2
          go_quiet (fail)
          have hinq := HI1.out.drewN nq
          have honq := HO1.out.drewN nq
          have hBq : Hid (Blk ((wr.alloc (.cells #[.int .i64 x1, .int .i64 x2, .int .i64 x3] 32)).drewN nq) wr.heap.size #[.int .i64 x1, .int .i64 x2, .int .i64 x3] 32) := Lib.hid hB0.out
          clear HI1 HO1 d1 d2 d3 hb 
          generalize (wr.alloc (.cells #[.int .i64 x1, .int .i64 x2, .int .i64 x3] 32)).drewN nq = wj at *
          generalize wr.heap.size = bx at *
          rw [← hhl2.out]
          have hhl3 : hs.length ≤ 20000 := by rw [hhl2.out]; omega
          go_wp2_with (at_builtin; (refine wpList_app1F (α := Hdr) rfl _ _ 75 rfl slCC hinq ao co _ honq _ _ hdr0 rfl rfl 1 rfl (by omega) ?_); intro a2 c2 w4 hi4 ho4 hg4 hf4)
          obtain ⟨nh, hnh⟩ : ∃ nh, hs.length = nh := ⟨_, rfl⟩
          obtain ⟨N, hN⟩ : ∃ N, N = nh + 1 := ⟨_, rfl⟩
          have hl6 : Hid ((hs ++ [hdr0]).length = N) := Lib.hid (by simp [hnh, hN])
          have hhd : Hid ((hs ++ [hdr0]).getD nh hdr0 = hdr0) := Lib.hid (by rw [← hnh]; simp)
          have hS6 : Hid (Ow2 w φ1 27 32 a2 c2 (hs ++ [hdr0]) none 0 ([] : List Cdg) w4) := Lib.hid ⟨hi4, ho4, Own.nil _ _ _ _, fun _ _ _ h => by cases h⟩
          have hBj : Hid (Blk w4 bx #[.int .i64 x1, .int .i64 x2, .int .i64 x3] 32) := Lib.hid ((hg4.block bx (by have := hBq.out.lt; simp; omega) (fun e => by
            cases ao with
            | none => cases e
            | some z => have := hao.out z rfl; simp at e; omega)).trans (hBq.out.alloc _))
          have hnh2 := Lib.hid hnh
          rw [hnh] at hhl3
          rw [show hs.length + 1 = N by rw [hnh, hN]]
          clear hi4 ho4 hg4 hf4 hinq honq hBq hnh
          have HN := Lib.hid hN
          obtain ⟨g, hga, hgB, hgl, hgf, hgc, hgz, _⟩ := hS6.out.o1.hdrD hl6 (k := nh) (by omega)
          subst hga
          have hb0 : w4.cell? ⟨bx, 0, none⟩ = some (.int .i64 x1) := hBj.out.cell 0
          have hb1 : w4.cell? ⟨bx, 1, none⟩ = some (.int .i64 x2) := hBj.out.cell 1
          have hb2 : w4.cell? ⟨bx, 2, none⟩ = some (.int .i64 x3) := hBj.out.cell 2
          have hblt := hBj.out.lt
          have hw1 : IntKind.i64.wrap ((N : Int) - 1) = nh := by rw [IntWalk.i64_in _ (by omega)]; omega
          have hi1 : (nh : Int) < (N : Int) := by omega
          have hi2 : (0 : Int) ≤ (nh : Int) := by omega
          rw [hhd.out] at hgc
          dsimp only at hgc
          clear hN
          have hlg : Hid ((∀ y, (none : Option Addr) = some y → y.block ≠ g ∧ y.block ≠ bx)) := Lib.hid (fun y hy => ⟨fun e => hS6.out.ne _ y rfl hy e.symm, (by cases hy)⟩)
          have hfz : ∀ o, (w4.alloc o).frozen? ⟨g, nh, none⟩ = false := fun o => (((Below.refl _ _).alloc (Nat.le_refl _) o).frozen (p := ⟨g, nh, none⟩) hgl).trans hgz
          have hfd : ∀ o, (w4.alloc o).drew.frozen? ⟨g, nh, none⟩ = false := hfz
          go_region_law ((refine step_appF (α := Cdg) (by rfl) _ _ _ (by rfl) slC (hS6.out.alloc _).inv.drew (none : Option Addr) 0 _ (by rfl) (hS6.out.alloc _).o2.drew ⟨w4.heap.size, 0, none⟩ 1 [(x1, x2, x3)] [.int .i64 x1, .int .i64 x2, .int .i64 x3] 1 (by rfl) (by rfl) (RepL.single ⟨[.int .i64 x1], [.int .i64 x2, .int .i64 x3], rfl, rfl, [.int .i64 x2], [.int .i64 x3], rfl, rfl, rfl⟩) (World.news_of_block (cs := #[.int .i64 x1, .int .i64 x2, .int .i64 x3]) (t := 32) (fr := (0, 0)) (heap_alloc_new w4 _)) (by show (([] : List Cdg).length + 1) * 24 ≤ 140737488355328; (try simp only [List.length_nil]); omega) ?_; intro a3 c3 w5 hi5 ho5 hg5 hf5; have hS7 := (((hS6.out.alloc (.cells #[.int .i64 x1, .int .i64 x2, .int .i64 x3] 32)).drewN 1).swap.step1 hi5 ho5 hg5 hf5).swap; have HS7 := Lib.hid hS7; have kg := far (o := nh) (hg5.block g (by simp; omega) (rowne (fun y hy => (hlg.out y hy).1))); have kb := fun o => far (o := o) (hg5.block bx (by simp; omega) (rowne (fun y hy => (hlg.out y hy).2))); have k0 : w5.cell? ⟨g, nh, none⟩ = some (.slice (none : Option Addr) ([] : List Cdg).length 0) := kg.1.trans (((Below.refl _ _).alloc (Nat.le_refl _) _).cell (p := ⟨g, nh, none⟩) hgl |>.trans hgc); have k1 : w5.frozen? ⟨g, nh, none⟩ = false := kg.2.trans (((Below.refl _ _).alloc (Nat.le_refl _) _).frozen (p := ⟨g, nh, none⟩) hgl |>.trans hgz); have k2 : w5.cell? ⟨bx, 0, none⟩ = some (.int .i64 x1) := (kb 0).1.trans (((Below.refl _ _).alloc (Nat.le_refl _) _).cell (p := ⟨bx, 0, none⟩) hblt |>.trans hb0); have k3 : w5.cell? ⟨bx, 1, none⟩ = some (.int .i64 x2) := (kb 1).1.trans (((Below.refl _ _).alloc (Nat.le_refl _) _).cell (p := ⟨bx, 1, none⟩) hblt |>.trans hb1); have k4 : w5.cell? ⟨bx, 2, none⟩ = some (.int .i64 x3) := (kb 2).1.trans (((Below.refl _ _).alloc (Nat.le_refl _) _).cell (p := ⟨bx, 2, none⟩) hblt |>.trans hb2); clear hS7 hi5 ho5 hg5 hf5 kg kb))
          clear hw1 hfz hfd
          all_goals
            obtain ⟨g', hga', hgB', hgl', hgf', hgc', hgz', hset⟩ := HS7.out.o1.hdrD hl6 (k := nh) (by have := HN.out; omega)
            cases hga'
            have hfin := Lib.hid (hset ⟨a3, ([] : List Cdg).length + 1, c3⟩ w φ1 HS7.out.inv)
            clear hset
            have hS8 := Lib.hid (HS7.out.put1 hfin.out.1 hfin.out.2)
            go_wp2
            go_roundw
            case rel =>
              refine ⟨k + 1, N, _, c2, by omega, by go_num, rfl, Lib.hid (by rw [hg1.out, List.length_append, hng.out, ← hhl2.out, hnh2.out, HN.out]; rfl), Lib.hid ⟨φ1, hs, grpK cs k, _, a3, c3, [(x1, x2, x3)], HLE.out, HNW.out, hS8.out, HHD.out, .inr ⟨hg1.out, ?_⟩⟩⟩
              rw [← hnh2.out]; simp
            case measure => simp [intOf]; omega
        · have h0i : ((k : Int) == 0) = false := by simp [h0]
          have hne : (x1 != y1) = true := by have := hnew.resolve_left h0; simpa using this
          have hpp := HP.out (by omega)
          have hpp' : (wr.alloc (.cells #[.int .i64 x1, .int .i64 x2, .int .i64 x3] 32)).cell? ⟨b, off + (k - 1) * 3, none⟩ = some (.int .i64 y1) := (((Below.refl wr.heap.size wr).alloc (Nat.le_refl _) _).cell (p := ⟨b, off + (k - 1) * 3, none⟩) hb).trans hpp
          have hb0' : (wr.alloc (.cells #[.int .i64 x1, .int .i64 x2, .int .i64 x3] 32)).cell? ⟨wr.heap.size, 0, none⟩ = some (.int .i64 x1) := box_at 0
          have hix : 0 ≤ (k : Int) - 1 := by omega
          have hix2 : (k : Int) - 1 < nc := by omega
          have hw0 : IntKind.i64.wrap ((k : Int) - 1) = k - 1 := IntWalk.i64_in _ (by omega)
          have hto : ((k : Int) - 1).toNat = k - 1 := by omega
          clear hnew
          go_wp2
          go_quiet (fail)
          have hinq := HI1.out.drewN nq
          have honq := HO1.out.drewN nq
          have hBq : Hid (Blk ((wr.alloc (.cells #[.int .i64 x1, .int .i64 x2, .int .i64 x3] 32)).drewN nq) wr.heap.size #[.int .i64 x1, .int .i64 x2, .int .i64 x3] 32) := Lib.hid hB0.out
          clear HI1 HO1 d1 d2 d3 hb hpp hpp' hb0' hw0 hto
          generalize (wr.alloc (.cells #[.int .i64 x1, .int .i64 x2, .int .i64 x3] 32)).drewN nq = wj at *
          generalize wr.heap.size = bx at *
          rw [← hhl2.out]
          have hhl3 : hs.length ≤ 20000 := by rw [hhl2.out]; omega
          go_wp2_with (at_builtin; (refine wpList_app1F (α := Hdr) rfl _ _ 75 rfl slCC hinq ao co _ honq _ _ hdr0 rfl rfl 1 rfl (by omega) ?_); intro a2 c2 w4 hi4 ho4 hg4 hf4)
          obtain ⟨nh, hnh⟩ : ∃ nh, hs.length = nh := ⟨_, rfl⟩
          obtain ⟨N, hN⟩ : ∃ N, N = nh + 1 := ⟨_, rfl⟩
          have hl6 : Hid ((hs ++ [hdr0]).length = N) := Lib.hid (by simp [hnh, hN])
          have hhd : Hid ((hs ++ [hdr0]).getD nh hdr0 = hdr0) := Lib.hid (by rw [← hnh]; simp)
          have hS6 : Hid (Ow2 w φ1 27 32 a2 c2 (hs ++ [hdr0]) none 0 ([] : List Cdg) w4) := Lib.hid ⟨hi4, ho4, Own.nil _ _ _ _, fun _ _ _ h => by cases h⟩
          have hBj : Hid (Blk w4 bx #[.int .i64 x1, .int .i64 x2, .int .i64 x3] 32) := Lib.hid ((hg4.block bx (by have := hBq.out.lt; simp; omega) (fun e => by
            cases ao with
            | none => cases e
            | some z => have := hao.out z rfl; simp at e; omega)).trans (hBq.out.alloc _))
          have hnh2 := Lib.hid hnh
          rw [hnh] at hhl3
          rw [show hs.length + 1 = N by rw [hnh, hN]]
          clear hi4 ho4 hg4 hf4 hinq honq hBq hnh
          have HN := Lib.hid hN
          obtain ⟨g, hga, hgB, hgl, hgf, hgc, hgz, _⟩ := hS6.out.o1.hdrD hl6 (k := nh) (by omega)
          subst hga
          have hb0 : w4.cell? ⟨bx, 0, none⟩ = some (.int .i64 x1) := hBj.out.cell 0
          have hb1 : w4.cell? ⟨bx, 1, none⟩ = some (.int .i64 x2) := hBj.out.cell 1
          have hb2 : w4.cell? ⟨bx, 2, none⟩ = some (.int .i64 x3) := hBj.out.cell 2
          have hblt := hBj.out.lt
          have hw1 : IntKind.i64.wrap ((N : Int) - 1) = nh := by rw [IntWalk.i64_in _ (by omega)]; omega
          have hi1 : (nh : Int) < (N : Int) := by omega
          have hi2 : (0 : Int) ≤ (nh : Int) := by omega
          rw [hhd.out] at hgc
          dsimp only at hgc
          clear hN
          have hlg : Hid ((∀ y, (none : Option Addr) = some y → y.block ≠ g ∧ y.block ≠ bx)) := Lib.hid (fun y hy => ⟨fun e => hS6.out.ne _ y rfl hy e.symm, (by cases hy)⟩)
          have hfz : ∀ o, (w4.alloc o).frozen? ⟨g, nh, none⟩ = false := fun o => (((Below.refl _ _).alloc (Nat.le_refl _) o).frozen (p := ⟨g, nh, none⟩) hgl).trans hgz
          have hfd : ∀ o, (w4.alloc o).drew.frozen? ⟨g, nh, none⟩ = false := hfz
          go_region_law ((refine step_appF (α := Cdg) (by rfl) _ _ _ (by rfl) slC (hS6.out.alloc _).inv.drew (none : Option Addr) 0 _ (by rfl) (hS6.out.alloc _).o2.drew ⟨w4.heap.size, 0, none⟩ 1 [(x1, x2, x3)] [.int .i64 x1, .int .i64 x2, .int .i64 x3] 1 (by rfl) (by rfl) (RepL.single ⟨[.int .i64 x1], [.int .i64 x2, .int .i64 x3], rfl, rfl, [.int .i64 x2], [.int .i64 x3], rfl, rfl, rfl⟩) (World.news_of_block (cs := #[.int .i64 x1, .int .i64 x2, .int .i64 x3]) (t := 32) (fr := (0, 0)) (heap_alloc_new w4 _)) (by show (([] : List Cdg).length + 1) * 24 ≤ 140737488355328; (try simp only [List.length_nil]); omega) ?_; intro a3 c3 w5 hi5 ho5 hg5 hf5; have hS7 := (((hS6.out.alloc (.cells #[.int .i64 x1, .int .i64 x2, .int .i64 x3] 32)).drewN 1).swap.step1 hi5 ho5 hg5 hf5).swap; have HS7 := Lib.hid hS7; have kg := far (o := nh) (hg5.block g (by simp; omega) (rowne (fun y hy => (hlg.out y hy).1))); have kb := fun o => far (o := o) (hg5.block bx (by simp; omega) (rowne (fun y hy => (hlg.out y hy).2))); have k0 : w5.cell? ⟨g, nh, none⟩ = some (.slice (none : Option Addr) ([] : List Cdg).length 0) := kg.1.trans (((Below.refl _ _).alloc (Nat.le_refl _) _).cell (p := ⟨g, nh, none⟩) hgl |>.trans hgc); have k1 : w5.frozen? ⟨g, nh, none⟩ = false := kg.2.trans (((Below.refl _ _).alloc (Nat.le_refl _) _).frozen (p := ⟨g, nh, none⟩) hgl |>.trans hgz); have k2 : w5.cell? ⟨bx, 0, none⟩ = some (.int .i64 x1) := (kb 0).1.trans (((Below.refl _ _).alloc (Nat.le_refl _) _).cell (p := ⟨bx, 0, none⟩) hblt |>.trans hb0); have k3 : w5.cell? ⟨bx, 1, none⟩ = some (.int .i64 x2) := (kb 1).1.trans (((Below.refl _ _).alloc (Nat.le_refl _) _).cell (p := ⟨bx, 1, none⟩) hblt |>.trans hb1); have k4 : w5.cell? ⟨bx, 2, none⟩ = some (.int .i64 x3) := (kb 2).1.trans (((Below.refl _ _).alloc (Nat.le_refl _) _).cell (p := ⟨bx, 2, none⟩) hblt |>.trans hb2); clear hS7 hi5 ho5 hg5 hf5 kg kb))
          clear hw1 hfz hfd
          all_goals
            obtain ⟨g', hga', hgB', hgl', hgf', hgc', hgz', hset⟩ := HS7.out.o1.hdrD hl6 (k := nh) (by have := HN.out; omega)
            cases hga'
            have hfin := Lib.hid (hset ⟨a3, ([] : List Cdg).length + 1, c3⟩ w φ1 HS7.out.inv)
            clear hset
            have hS8 := Lib.hid (HS7.out.put1 hfin.out.1 hfin.out.2)
            go_wp2
            go_roundw
            case rel =>
              refine ⟨k + 1, N, _, c2, by omega, by go_num, rfl, Lib.hid (by rw [hg1.out, List.length_append, hng.out, ← hhl2.out, hnh2.out, HN.out]; rfl), Lib.hid ⟨φ1, hs, grpK cs k, _, a3, c3, [(x1, x2, x3)], HLE.out, HNW.out, hS8.out, HHD.out, .inr ⟨hg1.out, ?_⟩⟩⟩
              rw [← hnh2.out]; simp
            case measure => simp [intOf]; omega
      · have hg1 : Hid (grpK cs (k + 1) = (grpK cs k).dropLast ++ [(grpK cs k).getLastD [] ++ [(x1, x2, x3)]]) := Lib.hid (by rw [hgk.out, if_neg hnew])
        have hk0 : 0 < k := by omega
        have h0i : ((k : Int) == 0) = false := by simp; omega
        have hne : (x1 != y1) = false := by
          have : x1 = y1 := Classical.not_not.1 (fun h => hnew (.inr h))
          simp [this]
        have hpp := HP.out hk0
        have hpp' : (wr.alloc (.cells #[.int .i64 x1, .int .i64 x2, .int .i64 x3] 32)).cell? ⟨b, off + (k - 1) * 3, none⟩ = some (.int .i64 y1) := (((Below.refl wr.heap.size wr).alloc (Nat.le_refl _) _).cell (p := ⟨b, off + (k - 1) * 3, none⟩) hb).trans hpp
        have hb0' : (wr.alloc (.cells #[.int .i64 x1, .int .i64 x2, .int .i64 x3] 32)).cell? ⟨wr.heap.size, 0, none⟩ = some (.int .i64 x1) := box_at 0
        have hix : 0 ≤ (k : Int) - 1 := by omega
        have hix2 : (k : Int) - 1 < nc := by omega
        have hw0 : IntKind.i64.wrap ((k : Int) - 1) = k - 1 := IntWalk.i64_in _ (by omega)
        have hto : ((k : Int) - 1).toNat = k - 1 := by omega
        clear hnew
        go_wp2
        go_quiet (fail)
        go_wp2
        clear hw0 hto hpp hpp' hb0'
        have hSx := hSt.out
        obtain ⟨φ1, hi, ini, hs, al, cl, la, hle1, hnw1, hS, hhd1, ⟨hgz, _⟩ | ⟨hgs, hhs⟩⟩ := hSx
        · exact absurd hgz (hgo.out.2.2 hk0)
        have hal : Hid (∀ y, al = some y → y.block < wr.heap.size) := Lib.hid (fun y hy => (hS.o2.lt y hy).2)
        have hlast : Hid ((grpK cs k).getLastD [] = la ∧ (grpK cs k).dropLast = ini) := Lib.hid (by rw [hgs]; simp)
        have hla : la.length ≤ 20000 := by have := (hgo.out.1 la (by rw [hgs]; simp)).2.1; omega
        obtain ⟨nh, rfl⟩ : ∃ nh, ng = nh + 1 := ⟨ng - 1, by have := hng.out; rw [hgs] at this; simp at this; omega⟩
        have hnhi : hi.length = nh := by have := hng.out; rw [hgs] at this; simp at this; rw [hhd1.len]; omega
        obtain ⟨N, hN⟩ : ∃ N, nh + 1 = N := ⟨_, rfl⟩
        rw [hN]
        have hl6 : Hid (hs.length = N) := Lib.hid (by rw [hhs]; simp [hnhi, hN])
        have HN := Lib.hid hN
        have hhd : Hid (hs.getD nh hdr0 = ⟨al, la.length, cl⟩) := Lib.hid (by rw [hhs, ← hnhi]; simp)
        have hS6 : Hid (Ow2 w φ1 27 32 ao co hs al cl la ((wr.alloc (.cells #[.int .i64 x1, .int .i64 x2, .int .i64 x3] 32)).drewN nq)) := Lib.hid ((hS.alloc _).drewN nq)
        have hBj : Hid (Blk ((wr.alloc (.cells #[.int .i64 x1, .int .i64 x2, .int .i64 x3] 32)).drewN nq) wr.heap.size #[.int .i64 x1, .int .i64 x2, .int .i64 x3] 32) := Lib.hid hB0.out
        have HHS := Lib.hid (And.intro hhs (And.intro hgs hnhi))
        have HLE := Lib.hid hle1
        have HNW := Lib.hid hnw1
        have HHD := Lib.hid hhd1
        clear hS hhs hgs hnhi hle1 hnw1 hhd1 hSt d1 d2 d3 hb
        generalize (wr.alloc (.cells #[.int .i64 x1, .int .i64 x2, .int .i64 x3] 32)).drewN nq = wj at *
        generalize wr.heap.size = bx at *
        obtain ⟨g, hga, hgB, hgl, hgf, hgc, hgz, _⟩ := hS6.out.o1.hdrD hl6 (k := nh) (by omega)
        subst hga
        have hb0 : wj.cell? ⟨bx, 0, none⟩ = some (.int .i64 x1) := hBj.out.cell 0
        have hb1 : wj.cell? ⟨bx, 1, none⟩ = some (.int .i64 x2) := hBj.out.cell 1
        have hb2 : wj.cell? ⟨bx, 2, none⟩ = some (.int .i64 x3) := hBj.out.cell 2
        have hblt := hBj.out.lt
        have hw1 : IntKind.i64.wrap ((N : Int) - 1) = nh := by rw [IntWalk.i64_in _ (by omega)]; omega
        have hi1 : (nh : Int) < (N : Int) := by omega
        have hi2 : (0 : Int) ≤ (nh : Int) := by omega
        rw [hhd.out] at hgc
        dsimp only at hgc
        clear hN
        have hlg : Hid ((∀ y, al = some y → y.block ≠ g ∧ y.block ≠ bx)) := Lib.hid (fun y hy => ⟨fun e => hS6.out.ne _ y rfl hy e.symm, by have := hal.out y hy; omega⟩)
        have hfz : ∀ o, (wj.alloc o).frozen? ⟨g, nh, none⟩ = false := fun o => (((Below.refl _ _).alloc (Nat.le_refl _) o).frozen (p := ⟨g, nh, none⟩) hgl).trans hgz
        have hfd : ∀ o, (wj.alloc o).drew.frozen? ⟨g, nh, none⟩ = false := hfz
        go_region_law ((refine step_appF (α := Cdg) (by rfl) _ _ _ (by rfl) slC (hS6.out.alloc _).inv.drew al cl _ (by rfl) (hS6.out.alloc _).o2.drew ⟨wj.heap.size, 0, none⟩ 1 [(x1, x2, x3)] [.int .i64 x1, .int .i64 x2, .int .i64 x3] 1 (by rfl) (by rfl) (RepL.single ⟨[.int .i64 x1], [.int .i64 x2, .int .i64 x3], rfl, rfl, [.int .i64 x2], [.int .i64 x3], rfl, rfl, rfl⟩) (World.news_of_block (cs := #[.int .i64 x1, .int .i64 x2, .int .i64 x3]) (t := 32) (fr := (0, 0)) (heap_alloc_new wj _)) (by show (la.length + 1) * 24 ≤ 140737488355328; (try simp only [List.length_nil]); omega) ?_; intro a3 c3 w5 hi5 ho5 hg5 hf5; have hS7 := (((hS6.out.alloc (.cells #[.int .i64 x1, .int .i64 x2, .int .i64 x3] 32)).drewN 1).swap.step1 hi5 ho5 hg5 hf5).swap; have HS7 := Lib.hid hS7; have kg := far (o := nh) (hg5.block g (by simp; omega) (rowne (fun y hy => (hlg.out y hy).1))); have kb := fun o => far (o := o) (hg5.block bx (by simp; omega) (rowne (fun y hy => (hlg.out y hy).2))); have k0 : w5.cell? ⟨g, nh, none⟩ = some (.slice al la.length cl) := kg.1.trans (((Below.refl _ _).alloc (Nat.le_refl _) _).cell (p := ⟨g, nh, none⟩) hgl |>.trans hgc); have k1 : w5.frozen? ⟨g, nh, none⟩ = false := kg.2.trans (((Below.refl _ _).alloc (Nat.le_refl _) _).frozen (p := ⟨g, nh, none⟩) hgl |>.trans hgz); have k2 : w5.cell? ⟨bx, 0, none⟩ = some (.int .i64 x1) := (kb 0).1.trans (((Below.refl _ _).alloc (Nat.le_refl _) _).cell (p := ⟨bx, 0, none⟩) hblt |>.trans hb0); have k3 : w5.cell? ⟨bx, 1, none⟩ = some (.int .i64 x2) := (kb 1).1.trans (((Below.refl _ _).alloc (Nat.le_refl _) _).cell (p := ⟨bx, 1, none⟩) hblt |>.trans hb1); have k4 : w5.cell? ⟨bx, 2, none⟩ = some (.int .i64 x3) := (kb 2).1.trans (((Below.refl _ _).alloc (Nat.le_refl _) _).cell (p := ⟨bx, 2, none⟩) hblt |>.trans hb2); clear hS7 hi5 ho5 hg5 hf5 kg kb))
        clear hw1 hfz hfd
        all_goals
          obtain ⟨g', hga', hgB', hgl', hgf', hgc', hgz', hset⟩ := HS7.out.o1.hdrD hl6 (k := nh) (by have := HN.out; omega)
          cases hga'
          have hfin := Lib.hid (hset ⟨a3, la.length + 1, c3⟩ w φ1 HS7.out.inv)
          clear hset
          have hS8 := Lib.hid (HS7.out.put1 hfin.out.1 hfin.out.2)
          go_wp2
          go_roundw
          case rel =>
            refine ⟨k + 1, N, _, co, by omega, by go_num, rfl, Lib.hid ?_, Lib.hid ⟨φ1, hi, ini, _, a3, c3, la ++ [(x1, x2, x3)], HLE.out, HNW.out, hS8.out, HHD.out, .inr ⟨?_, ?_⟩⟩⟩
            · rw [hg1.out, hlast.out.2]; have := HHS.out.2.2; rw [HHD.out.len] at this; have := HN.out; simp; omega
            · rw [hg1.out, hlast.out.1, hlast.out.2]
            · rw [HHS.out.1, ← HHS.out.2.2]; simp
          case measure => simp [intOf]; omega
    · obtain rfl : k = nc := by omega
      go_wp2
      go_ret
      obtain ⟨φ', h1, h2⟩ := hSt.out.fin
      rw [← hng.out]
      exact ⟨ao, co, φ', rfl, h1, h2⟩
end Go.Proofs.Ythnmglckhfajeaa
