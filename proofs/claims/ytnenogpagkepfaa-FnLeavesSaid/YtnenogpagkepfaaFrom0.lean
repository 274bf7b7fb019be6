/- Plain law of spots that are put into a picture. -/
import Derived.Test.YtnenogpagkepfaaAllSpots
import Derived.Test.YtnenogpagkepfaaTold
set_option linter.unusedVariables false
namespace Go.Proofs.Ytnenogpagkepfaa
open Go.RowKit

/-- A picture where b says so, else none. -/
def picIf (b : Bool) (L : List ByteArray) : List ByteArray := if b then L else []
def insB (W H : Int) (s : Int × Int) : Bool := inB s.1 0 (W - 1) && inB s.2 0 (H - 1)
/-- The pixels at some spots. -/
def putF (W : Nat) (l : List (Int × Int)) (i : Nat) : Bool := l.any fun s => decide (s.2.toNat * W + s.1.toNat = i)
def fromOk (W H : Int) (l : List (Int × Int)) : Bool := sizeOkB W H && l.all (insB W H)
def fromL (W H : Int) (l : List (Int × Int)) : List ByteArray := picIf (fromOk W H l) (render W.toNat H.toNat (putF W.toNat l))
theorem putF_take (W : Nat) (l : List (Int × Int)) (j : Nat) (h : j < l.length) (i : Nat) : putF W (l.take (j + 1)) i = if i = (l.getD j (0, 0)).2.toNat * W + (l.getD j (0, 0)).1.toNat then true else putF W (l.take j) i := by
  rw [spots_take h]
  simp only [putF, List.any_append, List.any_cons, List.any_nil, Bool.or_false]
  by_cases e : i = (l.getD j (0, 0)).2.toNat * W + (l.getD j (0, 0)).1.toNat
  · rw [if_pos e, decide_eq_true e.symm, Bool.or_true]
  · rw [if_neg e, decide_eq_false (fun h => e h.symm), Bool.or_false]
theorem all_take (q : Int × Int → Bool) (l : List (Int × Int)) (j : Nat) (h : j < l.length) : (l.take (j + 1)).all q = ((l.take j).all q && q (l.getD j (0, 0))) := by
  rw [spots_take h]; simp [List.all_append]
theorem all_no (q : Int × Int → Bool) (l : List (Int × Int)) (j : Nat) (h : j < l.length) (hq : q (l.getD j (0, 0)) = false) : l.all q = false := by
  rw [List.all_eq_false]
  exact ⟨l.getD j (0, 0), by simp [List.getD, List.getElem?_eq_getElem h], by rw [hq]; simp⟩
theorem all_yes (q : Int × Int → Bool) (l : List (Int × Int)) (j : Nat) (h : j < l.length) (hq : l.all q = true) : q (l.getD j (0, 0)) = true :=
  List.all_eq_true.1 hq _ (by simp [List.getD, List.getElem?_eq_getElem h])
theorem insB_nat {W H : Nat} {s : Int × Int} (h : insB W H s = true) : ∃ x y : Nat, s.1 = x ∧ s.2 = y ∧ x < W ∧ y < H := hasB_nat (W := W) (H := H) (x := s.1) (y := s.2) h

end Go.Proofs.Ytnenogpagkepfaa
