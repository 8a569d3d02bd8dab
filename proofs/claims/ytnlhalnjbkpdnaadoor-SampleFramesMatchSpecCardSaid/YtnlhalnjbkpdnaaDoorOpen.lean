/- From what the claim form says of an argument (it can be read as data) to the words of XMem: 'Reads': whatever is read at a type is some value of a Lean type, with its bounds. Conditions: none. -/
import Derived.Test.YtnlhalnjbkpdnaaDoorMem
import Derived.ProofKit
import Derived.OpenShut
import Derived.ShutString
import Derived.ChangeOld
import Derived.Below
import Derived.SizedLaws
namespace Go.Proofs.YtnlhalnjbkpdnaaDoor
open Go.RowKit Go.ChangeShapes Go.WideShapes Go.ChangeAt

def Phi.all (w : World) : Phi := fun b => w.heap[b]?
theorem Fz.all (w : World) : Fz (Phi.all w) w := fun _ _ h => h
theorem Phi.all_cell (w : World) (a : Addr) : (Phi.all w).cell? a = w.cell? a := by
  unfold Phi.cell? Phi.all World.cell?
  cases w.heap[a.block]? with
  | none => rfl
  | some o => cases o <;> rfl

section
variable {H : Type} (enc : TypeId × Value → H) (P : Program) (W : World)
def Reads (T : TypeId) (α : Type) [Rep α] (G : α → Prop) : Prop :=
  ∀ (fuel base : Nat) (spare : Nat → Bool) (held : Bool) (cs : List Value) (d : DataW H) (ps : List MemPlace), DataW.trod enc P W base spare held fuel T cs = some (d, ps) → (∀ n ∈ d.weights P T, n ≤ reachBytes) → ∃ x : α, Rep.rep (Phi.all W) x cs ∧ G x
variable {enc P W}

def IsI64 (n : Int) : Prop := -9223372036854775808 ≤ n ∧ n ≤ 9223372036854775807
theorem Reads.int {T : TypeId} (ht : P.underlying T = some (.int .i64)) : Reads enc P W T Int IsI64 := by
  intro fuel base spare held cs d ps h _
  obtain ⟨n, rfl, _, wf⟩ := DataW.trod_int ht h
  refine ⟨n, rfl, ?_⟩
  simpa [Lit.wf, IntKind.min, IntKind.max, IntKind.signed, IntKind.bits, IsI64] using wf
theorem Reads.bool {T : TypeId} (ht : P.underlying T = some .bool) : Reads enc P W T Bool (fun _ => True) := by
  intro fuel base spare held cs d ps h _
  obtain ⟨n, rfl, _⟩ := DataW.trod_bool ht h
  exact ⟨n, rfl, trivial⟩
def StrG (s : ByteArray) : Prop := s.size ≤ reachBytes
theorem Reads.str {T : TypeId} (ht : P.underlying T = some .string) : Reads enc P W T ByteArray StrG := by
  intro fuel base spare held cs d ps h hw
  obtain ⟨s, rfl, hx, _⟩ := DataW.trod_string ht h
  refine ⟨s, rfl, ?_⟩
  injection hx with h1 _
  subst h1
  have := hw s.data.toList.length (by simp [DataW.weights])
  rw [Array.length_toList] at this
  exact this

theorem mem_weightsAll {e : TypeId} : ∀ {l : List (DataW H)} {d : DataW H}, d ∈ l → ∀ n ∈ d.weights P e, n ∈ DataW.weightsAll P e l
  | x :: l, d, hd, n, hn => by
    simp only [DataW.weightsAll, List.mem_append]
    rcases List.mem_cons.1 hd with rfl | hd
    · exact .inl hn
    · exact .inr (mem_weightsAll hd n hn)
theorem Reads.slice {T E : TypeId} {α : Type} [Rep α] {G : α → Prop} (ht : P.underlying T = some (.slice E)) (hs : P.cellsOf E = Rep.size α) (hsz : 0 < Rep.size α) (he : Reads enc P W E α G) :
    Reads enc P W T (List α) (fun xs => xs.length * P.bytesOf E ≤ reachBytes ∧ ∀ x ∈ xs, G x) := by
  intro fuel base spare held cs d ps h hw
  rcases DataW.trod_slice ht h with ⟨rfl, hx⟩ | ⟨a, len, cap, elems, rest, n, _, rfl, hx, hb, hl, hm, hlen, hel, hsp, hns⟩
  · exact ⟨[], ⟨none, 0, rfl, SlV.empty _⟩, by simp, by simp⟩
  · injection hx with hd _
    subst hd
    have hww : ∀ m ∈ DataW.weights P T (.slice (elems.map (·.1)) (rest.map (·.1))), m ≤ reachBytes := hw
    simp only [DataW.weights, ht] at hww
    have each : ∀ i (hi : i < len), ∃ x : α, G x ∧ ∃ cs, Rep.rep (Phi.all W) x cs ∧ ∀ j (hj : j < cs.length), W.cell? (a.add (i * Rep.size α + j)) = some cs[j] := by
      intro i hi
      have h1 := hel i hi
      rw [List.getElem?_eq_getElem (by omega)] at h1
      obtain ⟨cs, hcs, htr⟩ := Option.bind_eq_some_iff.1 h1
      have hmem : (elems[i]'(by omega)).1 ∈ elems.map (·.1) := List.mem_map.2 ⟨_, List.getElem_mem _, rfl⟩
      obtain ⟨x, hr, hg⟩ := he n base spare held cs _ _ htr (fun m hm => hww m (by
        refine List.mem_cons_of_mem _ (List.mem_append.2 (.inl (mem_weightsAll hmem m hm)))))
      obtain ⟨_, hlen', hcell⟩ := World.cells?_some hcs
      refine ⟨x, hg, cs, hr, fun j hj => ?_⟩
      have := hcell j (by omega)
      rw [hs] at this
      have e : (a.add (i * Rep.size α)).add j = a.add (i * Rep.size α + j) := by
        unfold Addr.add
        by_cases h1 : i * Rep.size α = 0 <;> by_cases h2 : j = 0 <;> simp [h1, h2, Nat.add_assoc]
      rw [e] at this
      rw [this, List.getElem?_eq_getElem hj]
    have hch : ∃ xs : List α, xs.length = len ∧ ∀ i (hi : i < xs.length), G xs[i] ∧ ∃ cs, Rep.rep (Phi.all W) xs[i] cs ∧ ∀ j (hj : j < cs.length), W.cell? (a.add (i * Rep.size α + j)) = some cs[j] := by
      clear hww hel hw h
      have : ∀ m, m ≤ len → ∃ xs : List α, xs.length = m ∧ ∀ i (hi : i < xs.length), G xs[i] ∧ ∃ cs, Rep.rep (Phi.all W) xs[i] cs ∧ ∀ j (hj : j < cs.length), W.cell? (a.add (i * Rep.size α + j)) = some cs[j] := by
        intro m
        induction m with
        | zero => exact fun _ => ⟨[], rfl, fun i hi => by simp at hi⟩
        | succ m ih =>
          intro hm
          obtain ⟨xs, hl, hx⟩ := ih (by omega)
          obtain ⟨x, hg, hc⟩ := each m (by omega)
          refine ⟨xs ++ [x], by simp [hl], fun i hi => ?_⟩
          by_cases hi2 : i < xs.length
          · rw [List.getElem_append_left hi2]; exact hx i hi2
          · have : i = m := by simp at hi; omega
            subst this
            rw [List.getElem_append_right (by omega)]
            simp only [hl, Nat.sub_self, List.getElem_cons_zero]
            exact ⟨hg, hc⟩
      exact this len (Nat.le_refl _)
    obtain ⟨xs, hxl, hx⟩ := hch
    have hbytes : (elems.length + rest.length) * P.bytesOf E ≤ reachBytes := by
      have := hww ((elems.length + rest.length) * P.bytesOf E) (by simp)
      exact this
    refine ⟨xs, ⟨some a, cap, by rw [hxl], ⟨by omega, hm, (fun e => by cases e), (fun hne => ?_)⟩⟩, ?_, fun x hx' => ?_⟩
    · have hspot : a.spot = none := by
        have h0 : 0 < xs.length := List.length_pos_iff.2 hne
        obtain ⟨_, cs, hr, hc⟩ := hx 0 h0
        have hcl := Rep.len hr
        have := hc 0 (by omega)
        simp only [Nat.zero_mul, Nat.zero_add, Addr.add, if_true] at this
        unfold World.cell? at this
        split at this
        · split at this
          · cases this
          · next h => simpa using h
        · cases this
      refine ⟨a.block, a.off, by cases a; simp_all, fun k hk => ?_⟩
      obtain ⟨_, cs, hr, hc⟩ := hx k hk
      refine ⟨cs, hr, fun j hj => ?_⟩
      rw [Phi.all_cell]
      have := hc j hj
      have e : a.add (k * Rep.size α + j) = ⟨a.block, a.off + k * Rep.size α + j, none⟩ := by
        unfold Addr.add
        split
        · next h0 => cases a; simp_all
        · simp
      rw [← e]; exact this
    · rw [hxl, ← hlen]
      exact Nat.le_trans (Nat.mul_le_mul_right _ (Nat.le_add_right _ _)) hbytes
    · obtain ⟨i, hi, rfl⟩ := List.getElem_of_mem hx'
      exact (hx i hi).1
/-- One field of a struct. -/
theorem Reads.field {T : TypeId} {fs : Array Field} (ht : P.underlying T = some (.struct fs)) {fuel base : Nat} {spare : Nat → Bool} {held : Bool} {cs : List Value} {d : DataW H} {ps : List MemPlace} (h : DataW.trod enc P W base spare held fuel T cs = some (d, ps)) (hw : ∀ n ∈ d.weights P T, n ≤ reachBytes)
    (i : Nat) {Ti off si : Nat} {α : Type} [Rep α] {G : α → Prop} (hfi : (fs[i]?).map (fun f => (f.type, f.offset)) = some (Ti, off)) (hc : P.cellsOf Ti = si) (R : Reads enc P W Ti α G) :
    ∃ x : α, Rep.rep (Phi.all W) x ((cs.drop off).take si) ∧ G x := by
  obtain ⟨f, hf, he⟩ := Option.map_eq_some_iff.1 hfi
  simp only [Prod.mk.injEq] at he
  obtain ⟨rfl, rfl⟩ := he
  obtain ⟨xs, n, _, hx, hlen, hxl, hall⟩ := DataW.trod_struct ht h
  injection hx with hd _
  subst hd
  have hi : i < fs.size := (Array.getElem?_eq_some_iff.1 hf).1
  have h1 := hall i f hf
  rw [List.getElem?_eq_getElem (by omega)] at h1
  have hww : ∀ m ∈ DataW.weights P T (.agg (xs.map (·.1))), m ≤ reachBytes := hw
  simp only [DataW.weights, ht] at hww
  subst hc
  exact R n base spare held _ _ _ h1 (fun m hm => hww m (DataW.weights_mem_each (j := i) (by simp [hf]) (by rw [List.getElem?_map, List.getElem?_eq_getElem (by omega)]; rfl) m hm))
theorem struct_len {T : TypeId} {fs : Array Field} (ht : P.underlying T = some (.struct fs)) {fuel base : Nat} {spare : Nat → Bool} {held : Bool} {cs : List Value} {d : DataW H} {ps : List MemPlace} (h : DataW.trod enc P W base spare held fuel T cs = some (d, ps)) : cs.length = P.cellsOf T := by
  obtain ⟨xs, n, _, hx, hlen, hxl, hall⟩ := DataW.trod_struct ht h
  exact hlen
theorem Reads.struct2 {T T1 T2 s1 s2 : Nat} {fs : Array Field} {α β : Type} [Rep α] [Rep β] {G1 : α → Prop} {G2 : β → Prop} (ht : P.underlying T = some (.struct fs))
    (f1 : (fs[0]?).map (fun f => (f.type, f.offset)) = some (T1, 0)) (f2 : (fs[1]?).map (fun f => (f.type, f.offset)) = some (T2, s1))
    (c1 : P.cellsOf T1 = s1) (c2 : P.cellsOf T2 = s2) (cT : P.cellsOf T = s1 + s2) (R1 : Reads enc P W T1 α G1) (R2 : Reads enc P W T2 β G2) :
    Reads enc P W T (α × β) (fun x => G1 x.1 ∧ G2 x.2) := by
  intro fuel base spare held cs d ps h hw
  have hl := struct_len ht h
  obtain ⟨x, r1, g1⟩ := Reads.field ht h hw 0 f1 c1 R1
  obtain ⟨y, r2, g2⟩ := Reads.field ht h hw 1 f2 c2 R2
  rw [List.drop_zero] at r1
  rw [List.take_of_length_le (by simp; omega)] at r2
  exact ⟨(x, y), rep_pair s1 r1 r2, g1, g2⟩
theorem Reads.struct3 {T T1 T2 T3 s1 s2 s3 : Nat} {fs : Array Field} {α β γ : Type} [Rep α] [Rep β] [Rep γ] {G1 : α → Prop} {G2 : β → Prop} {G3 : γ → Prop} (ht : P.underlying T = some (.struct fs))
    (f1 : (fs[0]?).map (fun f => (f.type, f.offset)) = some (T1, 0)) (f2 : (fs[1]?).map (fun f => (f.type, f.offset)) = some (T2, s1)) (f3 : (fs[2]?).map (fun f => (f.type, f.offset)) = some (T3, s1 + s2))
    (c1 : P.cellsOf T1 = s1) (c2 : P.cellsOf T2 = s2) (c3 : P.cellsOf T3 = s3) (cT : P.cellsOf T = s1 + s2 + s3) (R1 : Reads enc P W T1 α G1) (R2 : Reads enc P W T2 β G2) (R3 : Reads enc P W T3 γ G3) :
    Reads enc P W T (α × β × γ) (fun x => G1 x.1 ∧ G2 x.2.1 ∧ G3 x.2.2) := by
  intro fuel base spare held cs d ps h hw
  have hl := struct_len ht h
  obtain ⟨x, r1, g1⟩ := Reads.field ht h hw 0 f1 c1 R1
  obtain ⟨y, r2, g2⟩ := Reads.field ht h hw 1 f2 c2 R2
  obtain ⟨z, r3, g3⟩ := Reads.field ht h hw 2 f3 c3 R3
  rw [List.drop_zero] at r1
  rw [List.take_of_length_le (by simp; omega)] at r3
  exact ⟨(x, y, z), rep_pair s1 r1 (rep_pair s2 r2 (by rw [List.drop_drop]; exact r3)), g1, g2, g3⟩
theorem Reads.struct4 {T T1 T2 T3 T4 s1 s2 s3 s4 : Nat} {fs : Array Field} {α β γ δ : Type} [Rep α] [Rep β] [Rep γ] [Rep δ] {G1 : α → Prop} {G2 : β → Prop} {G3 : γ → Prop} {G4 : δ → Prop} (ht : P.underlying T = some (.struct fs))
    (f1 : (fs[0]?).map (fun f => (f.type, f.offset)) = some (T1, 0)) (f2 : (fs[1]?).map (fun f => (f.type, f.offset)) = some (T2, s1)) (f3 : (fs[2]?).map (fun f => (f.type, f.offset)) = some (T3, s1 + s2)) (f4 : (fs[3]?).map (fun f => (f.type, f.offset)) = some (T4, s1 + s2 + s3))
    (c1 : P.cellsOf T1 = s1) (c2 : P.cellsOf T2 = s2) (c3 : P.cellsOf T3 = s3) (c4 : P.cellsOf T4 = s4) (cT : P.cellsOf T = s1 + s2 + s3 + s4) (R1 : Reads enc P W T1 α G1) (R2 : Reads enc P W T2 β G2) (R3 : Reads enc P W T3 γ G3) (R4 : Reads enc P W T4 δ G4) :
    Reads enc P W T (α × β × γ × δ) (fun x => G1 x.1 ∧ G2 x.2.1 ∧ G3 x.2.2.1 ∧ G4 x.2.2.2) := by
  intro fuel base spare held cs d ps h hw
  have hl := struct_len ht h
  obtain ⟨x, r1, g1⟩ := Reads.field ht h hw 0 f1 c1 R1
  obtain ⟨y, r2, g2⟩ := Reads.field ht h hw 1 f2 c2 R2
  obtain ⟨z, r3, g3⟩ := Reads.field ht h hw 2 f3 c3 R3
  obtain ⟨u, r4, g4⟩ := Reads.field ht h hw 3 f4 c4 R4
  rw [List.drop_zero] at r1
  rw [List.take_of_length_le (by simp; omega)] at r4
  exact ⟨(x, y, z, u), rep_pair s1 r1 (rep_pair s2 r2 (rep_pair s3 (by rw [List.drop_drop]; exact r3) (by rw [List.drop_drop, List.drop_drop, ← Nat.add_assoc]; exact r4))), g1, g2, g3, g4⟩
theorem Reads.struct5 {T T1 T2 T3 T4 T5 s1 s2 s3 s4 s5 : Nat} {fs : Array Field} {α β γ δ ε : Type} [Rep α] [Rep β] [Rep γ] [Rep δ] [Rep ε] {G1 : α → Prop} {G2 : β → Prop} {G3 : γ → Prop} {G4 : δ → Prop} {G5 : ε → Prop} (ht : P.underlying T = some (.struct fs))
    (f1 : (fs[0]?).map (fun f => (f.type, f.offset)) = some (T1, 0)) (f2 : (fs[1]?).map (fun f => (f.type, f.offset)) = some (T2, s1)) (f3 : (fs[2]?).map (fun f => (f.type, f.offset)) = some (T3, s1 + s2)) (f4 : (fs[3]?).map (fun f => (f.type, f.offset)) = some (T4, s1 + s2 + s3)) (f5 : (fs[4]?).map (fun f => (f.type, f.offset)) = some (T5, s1 + s2 + s3 + s4))
    (c1 : P.cellsOf T1 = s1) (c2 : P.cellsOf T2 = s2) (c3 : P.cellsOf T3 = s3) (c4 : P.cellsOf T4 = s4) (c5 : P.cellsOf T5 = s5) (cT : P.cellsOf T = s1 + s2 + s3 + s4 + s5) (R1 : Reads enc P W T1 α G1) (R2 : Reads enc P W T2 β G2) (R3 : Reads enc P W T3 γ G3) (R4 : Reads enc P W T4 δ G4) (R5 : Reads enc P W T5 ε G5) :
    Reads enc P W T (α × β × γ × δ × ε) (fun x => G1 x.1 ∧ G2 x.2.1 ∧ G3 x.2.2.1 ∧ G4 x.2.2.2.1 ∧ G5 x.2.2.2.2) := by
  intro fuel base spare held cs d ps h hw
  have hl := struct_len ht h
  obtain ⟨x, r1, g1⟩ := Reads.field ht h hw 0 f1 c1 R1
  obtain ⟨y, r2, g2⟩ := Reads.field ht h hw 1 f2 c2 R2
  obtain ⟨z, r3, g3⟩ := Reads.field ht h hw 2 f3 c3 R3
  obtain ⟨u, r4, g4⟩ := Reads.field ht h hw 3 f4 c4 R4
  obtain ⟨v, r5, g5⟩ := Reads.field ht h hw 4 f5 c5 R5
  rw [List.drop_zero] at r1
  rw [List.take_of_length_le (by simp; omega)] at r5
  exact ⟨(x, y, z, u, v), rep_pair s1 r1 (rep_pair s2 r2 (rep_pair s3 (by rw [List.drop_drop]; exact r3) (rep_pair s4 (by rw [List.drop_drop, List.drop_drop, ← Nat.add_assoc]; exact r4) (by rw [List.drop_drop, List.drop_drop, List.drop_drop, ← Nat.add_assoc, ← Nat.add_assoc]; exact r5)))), g1, g2, g3, g4, g5⟩
end
end Go.Proofs.YtnlhalnjbkpdnaaDoor
