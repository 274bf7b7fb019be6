/- Contracts of the reference's l01Like, l01Inside and IsInside. -/
import Derived.Test.YtnenogpagkepfaaSpecOps
set_option linter.unusedVariables false
namespace Go.Proofs.Ytnenogpagkepfaa
open Go.RowKit

/-- A picture behind a pointer: its rows lie in the variable of block a. -/
structure PicVar (w : World) (a : Nat) (p : Option Addr) (c : Nat) (ss : List ByteArray) : Prop where
  box : w.cell? ⟨a, 0, none⟩ = some (.slice p ss.length c)
  rd : Rd w p ss.length (strAt ss)
theorem PicVar.lt {w : World} {a : Nat} {p : Option Addr} {c : Nat} {ss : List ByteArray} (h : PicVar w a p c ss) : a < w.heap.size := World.block_lt_of_cell? _ _ h.box
theorem PicVar.bl {w w' : World} {a : Nat} {p : Option Addr} {c : Nat} {ss : List ByteArray} (h : PicVar w a p c ss) (hb : Below w.heap.size w w') : PicVar w' a p c ss :=
  ⟨(hb.cell (p := ⟨a, 0, none⟩) h.lt).trans h.box, h.rd.bl hb⟩
theorem PicVar.at {w : World} {a : Nat} {p : Option Addr} {c : Nat} {ss : List ByteArray} (h : PicVar w a p c ss) (ho : okPic ss = true) : PicAt w a p c ss := ⟨ho, h.box, h.rd⟩

/-- Two valid pictures of one size. -/
def likeB (ss ts : List ByteArray) : Bool := okPic ss && (okPic ts && (((wid ss : Int) == (wid ts : Int)) && ((ss.length : Int) == (ts.length : Int))))
theorem likeB_true {ss ts : List ByteArray} (h : likeB ss ts = true) : okPic ss = true ∧ okPic ts = true ∧ wid ss = wid ts ∧ ss.length = ts.length := by
  simp only [likeB, Bool.and_eq_true, beq_iff_eq] at h
  exact ⟨h.1, h.2.1, by omega, by omega⟩
/-- Of the first n pixels, are the black ones black in the other picture too? -/
def inTo (f g : Nat → Bool) (n : Nat) : Bool := (List.range n).all fun i => !(f i && !g i)
theorem inTo_succ (f g : Nat → Bool) (n : Nat) : inTo f g (n + 1) = (inTo f g n && !(f n && !g n)) := by simp [inTo, List.range_succ, List.all_append]
theorem inTo_le {f g : Nat → Bool} {n m : Nat} (h : inTo f g n = false) (hm : n ≤ m) : inTo f g m = false := by
  simp only [inTo, List.all_eq_false, List.mem_range] at h ⊢
  obtain ⟨x, hx, h⟩ := h
  exact ⟨x, by omega, h⟩

def insideB (ss ts : List ByteArray) : Bool := likeB ss ts && inTo (bits ss) (bits ts) (wid ss * ss.length)
end Go.Proofs.Ytnenogpagkepfaa
