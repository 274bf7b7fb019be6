/- Contracts of imageOf and ValidPicture. -/
import Derived.Test.YtjplikkehhpomaaImg
set_option linter.unusedVariables false
namespace Go.Proofs.Ytjplikkehhpomaa
open Go.RowKit

/-- Is the byte x of row y a '#'? -/
def bitAt (ss : List ByteArray) (x y : Nat) : Bool := match (rowS ss y).data.toList[x]? with | some b => b == 35 | none => false
/-- The pixels in reading order. -/
def bits (ss : List ByteArray) (i : Nat) : Bool := bitAt ss (i % wid ss) (i / wid ss)

theorem bitAt_byte {ss : List ByteArray} {x y : Nat} (hx : x < (rowS ss y).size) : bitAt ss x y = ((rowS ss y)[x] == 35) := by
  unfold bitAt
  rw [List.getElem?_eq_getElem (by simpa using hx)]
  rfl
theorem bits_at {ss : List ByteArray} {x y : Nat} (hx : x < wid ss) : bits ss (y * wid ss + x) = bitAt ss x y := by
  unfold bits
  rw [Nat.mul_comm, Nat.mul_add_mod, Nat.mod_eq_of_lt hx, Nat.mul_add_div (by omega), Nat.div_eq_of_lt hx, Nat.add_zero]

/-- What imageOf answers. -/
def ImgOut (w : World) (ss : List ByteArray) (e : Ending) (w' : World) : Prop :=
  Below w.heap.size w w' ∧ ((okPic ss = false ∧ e = .returned (.tuple #[.pointer none, .bool false])) ∨
    (okPic ss = true ∧ ∃ m g, e = .returned (.tuple #[.pointer (some ⟨m, 0, none⟩), .bool true]) ∧ Img w' m g (wid ss) ss.length (bits ss) ∧ w.heap.size ≤ m ∧ w.heap.size ≤ g))

/-- The image while it is read: n pixels are there. -/
def part (ss : List ByteArray) (n : Nat) (i : Nat) : Bool := if i < n then bits ss i else false

theorem img_step {w : World} {m g W H : Nat} {ss : List ByteArray} {n : Nat} (h : Img w m g W H (part ss n)) (b : Bool) (hb : bits ss n = b) : Img (w.setCell ⟨g, n, none⟩ (.bool b)).drew m g W H (part ss (n + 1)) := by
  refine ((h.set n b).drewN 1).congr (fun i _ => ?_)
  unfold part
  by_cases e : i = n
  · subst e; simp [hb]
  · by_cases l : i < n
    · simp [e, l, show i < n + 1 by omega]
    · simp [e, l, show ¬ i < n + 1 by omega]

theorem inB_false {n lo hi : Int} (h : ¬ (lo ≤ n ∧ n ≤ hi)) : inB n lo hi = false := by
  simp only [inB, Bool.and_eq_false_iff, decide_eq_false_iff_not]; omega

end Go.Proofs.Ytjplikkehhpomaa
