/- Words for decimal texts as bytes. Conditions: the library's table of powers of ten reads as it was laid, where Itoa is called. -/
import Derived.Test.YtafcecgcmaoakaaDoorA4
import Derived.Test.YtafcecgcmaoakaaDoorIto
import Derived.Test.YtafcecgcmaoakaaDoorBld
namespace Go.Proofs.YtafcecgcmaoakaaDoor
open Go.RowKit
/-- Bytes as a text. -/
def bl (l : List UInt8) : ByteArray := ⟨l.toArray⟩
theorem bl_app (a b : List UInt8) : bl a ++ bl b = bl (a ++ b) := by
  apply ByteArray.ext
  simp [bl]
theorem bl_size (l : List UInt8) : (bl l).size = l.length := by simp [bl, ByteArray.size]
theorem bl_nil : bl [] = ⟨#[]⟩ := rfl
theorem bl_list (l : List UInt8) : (bl l).data.toList = l := rfl
theorem decB_bl (n : Nat) : decB n = bl (Lib.decDigits n) := rfl
theorem itoa_nat (x : Nat) : itoaB (x : Int) = bl (Lib.decDigits x) := by
  show (⟨(Lib.itoa (x : Int)).toArray⟩ : ByteArray) = _
  rw [Lib.itoa, if_neg (by omega)]
  simp [bl]
theorem dec_lim {x : Nat} (h : x < 1000000000) : (Lib.decDigits x).length ≤ 9 := dec_len 8 x (by omega)
theorem dec_pos (x : Nat) : 1 ≤ (Lib.decDigits x).length := by
  have := dec_ne x
  cases h : Lib.decDigits x with
  | nil => exact absurd h this
  | cons a l => simp
end Go.Proofs.YtafcecgcmaoakaaDoor
