/- The text of a key tells the key: the plain law. Conditions: none; plain Lean. -/
import Derived.Test.YtkfmadeeobalaaaDoorD1
import Derived.Test.YtkfmadeeobalaaaDoorS1
namespace Go.Proofs.YtkfmadeeobalaaaDoor
open Go.RowKit
set_option linter.unusedVariables false
/-- The parts of a text between dots. -/
def segs : List UInt8 → List (List UInt8)
  | [] => [[]]
  | c :: cs => if c = 46 then [] :: segs cs else match segs cs with
    | h :: t => (c :: h) :: t
    | [] => [[c]]
theorem segs_one : ∀ {a : List UInt8}, (∀ c ∈ a, c ≠ 46) → segs a = [a]
  | [], _ => rfl
  | c :: cs, h => by
    have h1 := segs_one (a := cs) (fun x hx => h x (by simp [hx]))
    rw [segs, if_neg (h c (by simp)), h1]
theorem segs_dot : ∀ {a : List UInt8} (r : List UInt8), (∀ c ∈ a, c ≠ 46) → segs (a ++ 46 :: r) = a :: segs r
  | [], r, _ => by rw [List.nil_append, segs, if_pos rfl]
  | c :: cs, r, h => by
    have h1 := segs_dot (a := cs) r (fun x hx => h x (by simp [hx]))
    rw [List.cons_append, segs, if_neg (h c (by simp)), h1]
/-- The number that digits write. -/
def dval (l : List UInt8) : Nat := l.foldl (fun a c => a * 10 + (c.toNat - 48)) 0
theorem dval_snoc (l : List UInt8) (c : UInt8) : dval (l ++ [c]) = dval l * 10 + (c.toNat - 48) := by unfold dval; rw [List.foldl_append]; rfl
theorem digit_val {d : Nat} (h : d < 10) : (UInt8.ofNat (48 + d)).toNat = 48 + d := by
  rw [UInt8.toNat_ofNat']
  exact Nat.mod_eq_of_lt (by omega)
theorem dval_dec (u : Nat) : dval (Lib.decDigits u) = u := by
  induction u using Nat.strongRecOn with
  | _ u ih =>
    rw [Lib.decDigits]
    split
    · next h =>
      show 0 * 10 + ((UInt8.ofNat (48 + u)).toNat - 48) = u
      rw [digit_val h]; omega
    · next h =>
      rw [dval_snoc, ih _ (by omega), digit_val (by omega)]
      omega
theorem dec_dot (u : Nat) : ∀ c ∈ Lib.decDigits u, c ≠ 46 := by
  induction u using Nat.strongRecOn with
  | _ u ih =>
    rw [Lib.decDigits]
    have hd : ∀ d, d < 10 → UInt8.ofNat (48 + d) ≠ 46 := fun d hd e => by
      have := digit_val hd
      rw [e] at this
      have e2 : (46 : UInt8).toNat = 46 := rfl
      omega
    split
    · next h => intro c hc; rw [List.mem_singleton.1 hc]; exact hd u h
    · next h =>
      intro c hc
      rcases List.mem_append.1 hc with q | q
      · exact ih _ (by omega) c q
      · rw [List.mem_singleton.1 q]; exact hd _ (Nat.mod_lt _ (by decide))
theorem itoa_inj {a b : Int} (ha : 0 ≤ a) (hb : 0 ≤ b) (h : Lib.itoa a = Lib.itoa b) : a = b := by
  unfold Lib.itoa at h
  rw [if_neg (by omega), if_neg (by omega)] at h
  have := congrArg dval h
  rw [dval_dec, dval_dec] at this
  omega
theorem itoa_dot {a : Int} (ha : 0 ≤ a) : ∀ c ∈ Lib.itoa a, c ≠ 46 := by
  unfold Lib.itoa
  rw [if_neg (by omega)]
  exact dec_dot _
def rowL (row : List Int) : List UInt8 := row.flatMap (fun n => 46 :: Lib.itoa n)
theorem segs_row : ∀ {row : List Int} {a : List UInt8}, (∀ c ∈ a, c ≠ 46) → (∀ n ∈ row, 0 ≤ n) → segs (a ++ rowL row) = a :: row.map Lib.itoa
  | [], a, h, _ => by show segs (a ++ []) = _; rw [List.append_nil, segs_one h]; rfl
  | n :: row, a, h, hr => by
    have e : rowL (n :: row) = 46 :: (Lib.itoa n ++ rowL row) := rfl
    rw [e, segs_dot _ h, segs_row (itoa_dot (hr n (by simp))) (fun m hm => hr m (by simp [hm]))]
    rfl
theorem map_itoa_inj : ∀ {a b : List Int}, (∀ n ∈ a, 0 ≤ n) → (∀ n ∈ b, 0 ≤ n) → a.map Lib.itoa = b.map Lib.itoa → a = b
  | [], [], _, _, _ => rfl
  | [], y :: b, _, _, h => by simp at h
  | x :: a, [], _, _, h => by simp at h
  | x :: a, y :: b, ha, hb, h => by
    simp only [List.map_cons, List.cons.injEq] at h
    rw [itoa_inj (ha x (by simp)) (hb y (by simp)) h.1, map_itoa_inj (fun n hn => ha n (by simp [hn])) (fun n hn => hb n (by simp [hn])) h.2]
/-- The text of a key, up to the k-th number. -/
def keyK (nm : ByteArray) (row : List Int) : Nat → ByteArray
  | 0 => nm
  | k + 1 => (keyK nm row k ++ ⟨#[46]⟩) ++ itoaB (row.getD k 0)
def keyB (x : KeyD) : ByteArray := keyK x.1 x.2 x.2.length
theorem keyK_list (nm : ByteArray) (row : List Int) : ∀ k, k ≤ row.length → (keyK nm row k).data.toList = nm.data.toList ++ rowL (row.take k)
  | 0, _ => by simp [keyK, rowL]
  | k + 1, h => by
    have h1 := keyK_list nm row k (by omega)
    have e : (keyK nm row (k + 1)).data.toList = (keyK nm row k).data.toList ++ (46 :: Lib.itoa (row.getD k 0)) := by
      rw [keyK]
      simp [itoaB]
    have e3 : row.take (k + 1) = row.take k ++ [row.getD k 0] := by
      rw [List.take_add_one, List.getElem?_eq_getElem (by omega), List.getD_eq_getElem?_getD, List.getElem?_eq_getElem (by omega)]; rfl
    rw [e, h1, e3]
    unfold rowL
    rw [List.flatMap_append]
    simp
def KeyOk (x : KeyD) : Prop := (∀ k, k < x.1.size → wrdB (byt x.1 k) = true) ∧ ∀ n ∈ x.2, 1 ≤ n ∧ n ≤ 999
theorem nodot {s : ByteArray} (h : ∀ k, k < s.size → wrdB (byt s k) = true) : ∀ c ∈ s.data.toList, c ≠ 46 := by
  intro c hc e
  obtain ⟨i, hi, rfl⟩ := List.mem_iff_getElem.1 hc
  have hi' : i < s.size := by simpa using hi
  have := h i hi'
  rw [byt_eq s i hi'] at this
  have e2 : s[i] = 46 := by rw [← e]; rfl
  rw [e2] at this
  revert this
  decide
theorem keyB_inj {x y : KeyD} (hx : KeyOk x) (hy : KeyOk y) (h : keyB x = keyB y) : x = y := by
  have h1 := keyK_list x.1 x.2 x.2.length (Nat.le_refl _)
  have h2 := keyK_list y.1 y.2 y.2.length (Nat.le_refl _)
  rw [List.take_length] at h1 h2
  unfold keyB at h
  rw [h, h2] at h1
  have h3 := congrArg segs h1
  rw [segs_row (nodot hy.1) (fun n hn => by have := (hy.2 n hn).1; omega), segs_row (nodot hx.1) (fun n hn => by have := (hx.2 n hn).1; omega)] at h3
  simp only [List.cons.injEq] at h3
  have h4 := map_itoa_inj (fun n hn => by have := (hy.2 n hn).1; omega) (fun n hn => by have := (hx.2 n hn).1; omega) h3.2
  have h5 : x.1 = y.1 := by
    apply ByteArray.ext
    apply Array.toList_inj.1
    exact h3.1.symm
  exact Prod.ext h5 h4.symm
theorem keyK_size (nm : ByteArray) (row : List Int) (hr : ∀ n ∈ row, 1 ≤ n ∧ n ≤ 999) : ∀ k, k ≤ row.length → (keyK nm row k).size ≤ nm.size + 9 * k
  | 0, _ => by simp [keyK]
  | k + 1, h => by
    have h1 := keyK_size nm row hr k (by omega)
    have hm : row.getD k 0 ∈ row := by rw [getD_elem0 _ _ _ (by omega)]; exact List.getElem_mem _
    have h2 := itoaB_size (n := row.getD k 0) (by have := (hr _ hm).1; omega) (by have := (hr _ hm).2; omega)
    rw [keyK, ByteArray.size_append, ByteArray.size_append]
    have : (⟨#[46]⟩ : ByteArray).size = 1 := rfl
    omega
end Go.Proofs.YtkfmadeeobalaaaDoor
