/- Contracts of the small functions on names and check numbers: what spec.IsName, impl.IsName, spec.CheckOf and impl.CheckOf return. -/
import Derived.Test.YtakoklldmdbphaaBase
set_option linter.unusedVariables false
namespace Go.Proofs.Ytakoklldmdbphaa
open Go.RowKit

def nameB (b : UInt8) : Bool := decide (97 ≤ (b.toNat : Int)) && decide ((b.toNat : Int) ≤ 122)
def isNameB (s : ByteArray) : Bool := s.data.toList.all nameB && decide (1 ≤ s.size) && decide (s.size ≤ 8)


def chk (n : Int) (l : List UInt8) : Int := l.foldl (fun a b => (421 * a + (b.toNat : Int) + 19) % 65129) n
theorem chk_bd (n : Int) (l : List UInt8) (h0 : 0 ≤ n) (h1 : n ≤ 65128) : 0 ≤ chk n l ∧ chk n l ≤ 65128 := by
  unfold chk
  induction l generalizing n with
  | nil => exact ⟨h0, h1⟩
  | cons b l ih => exact ih _ (by dsimp only; omega) (by dsimp only; omega)
theorem chk_snoc (n : Int) (l : List UInt8) (b : UInt8) : chk n (l ++ [b]) = (421 * chk n l + (b.toNat : Int) + 19) % 65129 := by simp [chk, List.foldl_append]
theorem chk_take (n : Int) (s : ByteArray) (k : Nat) (h : k < s.size) : chk n (s.data.toList.take (k + 1)) = (421 * chk n (s.data.toList.take k) + (s[k].toNat : Int) + 19) % 65129 := by
  rw [List.take_succ_eq_append_getElem (by simpa using h), chk_snoc]; rfl
theorem chk_full (n : Int) (s : ByteArray) : chk n (s.data.toList.take s.size) = chk n s.data.toList := by rw [List.take_of_length_le (by simp)]

end Go.Proofs.Ytakoklldmdbphaa
