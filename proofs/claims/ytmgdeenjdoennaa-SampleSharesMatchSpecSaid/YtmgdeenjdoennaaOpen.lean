/- From what the claim form says of an argument (it can be read as data) to the words of XMem: 'Reads': whatever is read at a type is some value of a Lean type, with its bounds. Conditions: none. -/
import Derived.Test.YtmgdeenjdoennaaMem
import Derived.ProofKit
import Derived.OpenShut
import Derived.ShutString
import Derived.ChangeOld
import Derived.Below
import Derived.SizedLaws
namespace Go.Proofs.Ytmgdeenjdoennaa
open Go.RowKit Go.ChangeShapes Go.WideShapes Go.ChangeAt

def Phi.all (w : World) : Phi := fun b => w.heap[b]?
theorem Fz.all (w : World) : Fz (Phi.all w) w := fun _ _ h => h
theorem Phi.all_cell (w : World) (a : Addr) : (Phi.all w).cell? a = w.cell? a := by
  unfold Phi.cell? Phi.all World.cell?
  cases w.heap[a.block]? with
  | none => rfl
  | some o => cases o <;> rfl

section
variable {H : Type} (enc : TypeId × Value → H) (P : Program) (W : World)
def Reads (T : TypeId) (α : Type) [Rep α] (G : α → Prop) : Prop :=
  ∀ (fuel base : Nat) (spare : Nat → Bool) (held : Bool) (cs : List Value) (d : DataW H) (ps : List MemPlace), DataW.trod enc P W base spare held fuel T cs = some (d, ps) → (∀ n ∈ d.weights P T, n ≤ reachBytes) → ∃ x : α, Rep.rep (Phi.all W) x cs ∧ G x
variable {enc P W}

def IsI64 (n : Int) : Prop := -9223372036854775808 ≤ n ∧ n ≤ 9223372036854775807
theorem Reads.int {T : TypeId} (ht : P.underlying T = some (.int .i64)) : Reads enc P W T Int IsI64 := by
  intro fuel base spare held cs d ps h _
  obtain ⟨n, rfl, _, wf⟩ := DataW.trod_int ht h
  refine ⟨n, rfl, ?_⟩
  simpa [Lit.wf, IntKind.min, IntKind.max, IntKind.signed, IntKind.bits, IsI64] using wf
theorem Reads.bool {T : TypeId} (ht : P.underlying T = some .bool) : Reads enc P W T Bool (fun _ => True) := by
  intro fuel base spare held cs d ps h _
  obtain ⟨n, rfl, _⟩ := DataW.trod_bool ht h
  exact ⟨n, rfl, trivial⟩
theorem Reads.str {T : TypeId} (ht : P.underlying T = some .string) : Reads enc P W T ByteArray (fun s => s.size ≤ reachBytes) := by
  intro fuel base spare held cs d ps h hw
  obtain ⟨s, rfl, hx, _⟩ := DataW.trod_string ht h
  refine ⟨s, rfl, ?_⟩
  injection hx with h1 _
  subst h1
  have := hw s.data.toList.length (by simp [DataW.weights])
  rw [Array.length_toList] at this
  exact this

theorem mem_weightsAll {e : TypeId} : ∀ {l : List (DataW H)} {d : DataW H}, d ∈ l → ∀ n ∈ d.weights P e, n ∈ DataW.weightsAll P e l
  | x :: l, d, hd, n, hn => by
    simp only [DataW.weightsAll, List.mem_append]
    rcases List.mem_cons.1 hd with rfl | hd
    · exact .inl hn
    · exact .inr (mem_weightsAll hd n hn)
theorem Reads.slice {T E : TypeId} {α : Type} [Rep α] {G : α → Prop} (ht : P.underlying T = some (.slice E)) (hs : P.cellsOf E = Rep.size α) (hsz : 0 < Rep.size α) (he : Reads enc P W E α G) :
    Reads enc P W T (List α) (fun xs => xs.length * P.bytesOf E ≤ reachBytes ∧ ∀ x ∈ xs, G x) := by
  intro fuel base spare held cs d ps h hw
  rcases DataW.trod_slice ht h with ⟨rfl, hx⟩ | ⟨a, len, cap, elems, rest, n, _, rfl, hx, hb, hl, hm, hlen, hel, hsp, hns⟩
  · exact ⟨[], ⟨none, 0, rfl, SlV.empty _⟩, by simp, by simp⟩
  · injection hx with hd _
    subst hd
    have hww : ∀ m ∈ DataW.weights P T (.slice (elems.map (·.1)) (rest.map (·.1))), m ≤ reachBytes := hw
    simp only [DataW.weights, ht] at hww
    have each : ∀ i (hi : i < len), ∃ x : α, G x ∧ ∃ cs, Rep.rep (Phi.all W) x cs ∧ ∀ j (hj : j < cs.length), W.cell? (a.add (i * Rep.size α + j)) = some cs[j] := by
      intro i hi
      have h1 := hel i hi
      rw [List.getElem?_eq_getElem (by omega)] at h1
      obtain ⟨cs, hcs, htr⟩ := Option.bind_eq_some_iff.1 h1
      have hmem : (elems[i]'(by omega)).1 ∈ elems.map (·.1) := List.mem_map.2 ⟨_, List.getElem_mem _, rfl⟩
      obtain ⟨x, hr, hg⟩ := he n base spare held cs _ _ htr (fun m hm => hww m (by
        refine List.mem_cons_of_mem _ (List.mem_append.2 (.inl (mem_weightsAll hmem m hm)))))
      obtain ⟨_, hlen', hcell⟩ := World.cells?_some hcs
      refine ⟨x, hg, cs, hr, fun j hj => ?_⟩
      have := hcell j (by omega)
      rw [hs] at this
      have e : (a.add (i * Rep.size α)).add j = a.add (i * Rep.size α + j) := by
        unfold Addr.add
        by_cases h1 : i * Rep.size α = 0 <;> by_cases h2 : j = 0 <;> simp [h1, h2, Nat.add_assoc]
      rw [e] at this
      rw [this, List.getElem?_eq_getElem hj]
    have hch : ∃ xs : List α, xs.length = len ∧ ∀ i (hi : i < xs.length), G xs[i] ∧ ∃ cs, Rep.rep (Phi.all W) xs[i] cs ∧ ∀ j (hj : j < cs.length), W.cell? (a.add (i * Rep.size α + j)) = some cs[j] := by
      clear hww hel hw h
      have : ∀ m, m ≤ len → ∃ xs : List α, xs.length = m ∧ ∀ i (hi : i < xs.length), G xs[i] ∧ ∃ cs, Rep.rep (Phi.all W) xs[i] cs ∧ ∀ j (hj : j < cs.length), W.cell? (a.add (i * Rep.size α + j)) = some cs[j] := by
        intro m
        induction m with
        | zero => exact fun _ => ⟨[], rfl, fun i hi => by simp at hi⟩
        | succ m ih =>
          intro hm
          obtain ⟨xs, hl, hx⟩ := ih (by omega)
          obtain ⟨x, hg, hc⟩ := each m (by omega)
          refine ⟨xs ++ [x], by simp [hl], fun i hi => ?_⟩
          by_cases hi2 : i < xs.length
          · rw [List.getElem_append_left hi2]; exact hx i hi2
          · have : i = m := by simp at hi; omega
            subst this
            rw [List.getElem_append_right (by omega)]
            simp only [hl, Nat.sub_self, List.getElem_cons_zero]
            exact ⟨hg, hc⟩
      exact this len (Nat.le_refl _)
    obtain ⟨xs, hxl, hx⟩ := hch
    have hbytes : (elems.length + rest.length) * P.bytesOf E ≤ reachBytes := by
      have := hww ((elems.length + rest.length) * P.bytesOf E) (by simp)
      exact this
    refine ⟨xs, ⟨some a, cap, by rw [hxl], ⟨by omega, hm, (fun e => by cases e), (fun hne => ?_)⟩⟩, ?_, fun x hx' => ?_⟩
    · have hspot : a.spot = none := by
        have h0 : 0 < xs.length := List.length_pos_iff.2 hne
        obtain ⟨_, cs, hr, hc⟩ := hx 0 h0
        have hcl := Rep.len hr
        have := hc 0 (by omega)
        simp only [Nat.zero_mul, Nat.zero_add, Addr.add, if_true] at this
        unfold World.cell? at this
        split at this
        · split at this
          · cases this
          · next h => simpa using h
        · cases this
      refine ⟨a.block, a.off, by cases a; simp_all, fun k hk => ?_⟩
      obtain ⟨_, cs, hr, hc⟩ := hx k hk
      refine ⟨cs, hr, fun j hj => ?_⟩
      rw [Phi.all_cell]
      have := hc j hj
      have e : a.add (k * Rep.size α + j) = ⟨a.block, a.off + k * Rep.size α + j, none⟩ := by
        unfold Addr.add
        split
        · next h0 => cases a; simp_all
        · simp [Nat.add_assoc]
      rw [← e]; exact this
    · rw [hxl, ← hlen]
      exact Nat.le_trans (Nat.mul_le_mul_right _ (Nat.le_add_right _ _)) hbytes
    · obtain ⟨i, hi, rfl⟩ := List.getElem_of_mem hx'
      exact (hx i hi).1
end
end Go.Proofs.Ytmgdeenjdoennaa
