/- Contracts of the reference's CountBlack, SpotsOf and their parts. -/
import Derived.Test.YtnenogpagkepfaaSpecPix
set_option linter.unusedVariables false
namespace Go.Proofs.Ytnenogpagkepfaa
open Go.RowKit

/-- The number of black pixels of a picture, its black pixels; of no picture: none. -/
def spotsL (ss : List ByteArray) : List (Int × Int) := if okPic ss then spotsTo (wid ss) (bits ss) (wid ss * ss.length) else []
theorem spotsL_len (ss : List ByteArray) : (spotsL ss).length ≤ 256 := by
  unfold spotsL
  split
  · rename_i h
    have hd := okPic_dims h
    exact Nat.le_trans (spotsTo_len _ _ _) (mul_256 (by omega) (by omega))
  · simp


/-- The loop of l01Spots: n pixels are looked at. -/
def SpotRel (w : World) (W : Nat) (f : Nat → Bool) (n : Nat) (v : Value) (wr : World) : Prop :=
  ∃ p c, v = .slice p (spotsTo W f n).length c ∧ wr.ownsRow w.heap.size 143 2 (.slice p (spotsTo W f n).length c) (spotsTo W f n).length (spotCells (spotsTo W f n)) ∧ Since w wr
end Go.Proofs.Ytnenogpagkepfaa
