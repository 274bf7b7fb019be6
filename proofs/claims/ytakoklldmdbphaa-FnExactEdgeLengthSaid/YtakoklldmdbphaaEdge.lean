/- Contracts of the reference's and the program's EdgeLength. -/
import Derived.Test.YtakoklldmdbphaaNearOf
set_option linter.unusedVariables false
namespace Go.Proofs.Ytakoklldmdbphaa
open Go.RowKit

def nB (b : Bool) : Int := if b then 0 else 1
theorem nB_bd (b : Bool) : 0 ≤ nB b ∧ nB b ≤ 1 := by cases b <;> simp [nB]
def wayX (k : Int) : Int := if k = 0 then 1 else if k = 2 then -1 else 0
def wayY (k : Int) : Int := if k = 1 then 1 else if k = 3 then -1 else 0
theorem wayX_bd (k : Int) : -1 ≤ wayX k ∧ wayX k ≤ 1 := by unfold wayX; split <;> (try split) <;> omega
theorem wayY_bd (k : Int) : -1 ≤ wayY k ∧ wayY k ≤ 1 := by unfold wayY; split <;> (try split) <;> omega
/-- How many of the first k neighbours of a pixel are white. -/
def edgeK (W H : Nat) (f : Nat → Bool) (x y : Int) : Nat → Int
  | 0 => 0
  | k + 1 => edgeK W H f x y k + nB (px W H f (x + wayX k) (y + wayY k))
theorem edgeK_bd (W H : Nat) (f : Nat → Bool) (x y : Int) (k : Nat) : 0 ≤ edgeK W H f x y k ∧ edgeK W H f x y k ≤ k := by
  induction k with
  | zero => simp [edgeK]
  | succ k ih => have := nB_bd (px W H f (x + wayX k) (y + wayY k)); simp only [edgeK]; omega
/-- The length of the edges of the first n pixels. -/
def edgesN (W H : Nat) (f : Nat → Bool) : Nat → Int
  | 0 => 0
  | n + 1 => edgesN W H f n + if f n then edgeK W H f ((n % W : Nat) : Int) ((n / W : Nat) : Int) 4 else 0
theorem edgesN_bd (W H : Nat) (f : Nat → Bool) (n : Nat) : 0 ≤ edgesN W H f n ∧ edgesN W H f n ≤ 4 * n := by
  induction n with
  | zero => simp [edgesN]
  | succ n ih =>
    have := edgeK_bd W H f ((n % W : Nat) : Int) ((n / W : Nat) : Int) 4
    simp only [edgesN]
    split <;> omega
theorem edgesN_at {W H : Nat} {f : Nat → Bool} {x y : Nat} (hx : x < W) : edgesN W H f (y * W + (x + 1)) = edgesN W H f (y * W + x) + if f (y * W + x) then edgeK W H f (x : Int) (y : Int) 4 else 0 := by
  rw [← Nat.add_assoc, edgesN, (at_mod hx).1, (at_mod hx).2]
def edgeL (ss : List ByteArray) : Int := if okPic ss then edgesN (wid ss) ss.length (bits ss) (wid ss * ss.length) else 0

theorem sum_take {α : Type} (g : α → Int) (l : List α) (k : Nat) (d : α) (h : k < l.length) : ((l.take (k + 1)).map g).sum = ((l.take k).map g).sum + g (l.getD k d) := by
  rw [List.take_succ_eq_append_getElem h, List.map_append, List.sum_append]
  simp [List.getD, List.getElem?_eq_getElem h]

/-- The first n places around a spot that lie beside it. -/
def arIs (k : Nat) : Bool := k % 2 == 1
def arN (x y : Int) (n : Nat) : List (Int × Int) := ((List.range n).filter arIs).map fun k => (x + (((k % 3 : Nat) : Int) - 1), y + (((k / 3 : Nat) : Int) - 1))
theorem arN_no {x y : Int} {k : Nat} (h : arIs k = false) : arN x y (k + 1) = arN x y k := by simp [arN, List.range_succ, h]
theorem arN_yes {x y x' y' : Int} {k : Nat} (h : arIs k = true) (hx : x' = x + (((k % 3 : Nat) : Int) - 1)) (hy : y' = y + (((k / 3 : Nat) : Int) - 1)) : arN x y (k + 1) = arN x y k ++ [(x', y')] := by
  simp [arN, List.range_succ, h, hx, hy]
theorem arN_len (x y : Int) : (arN x y 9).length = 4 := by rfl
theorem arN_le (x y : Int) (n : Nat) : (arN x y n).length ≤ n := by
  have := List.length_filter_le arIs (List.range n)
  simpa [arN] using this
def wS (W H : Nat) (f : Nat → Bool) (l : List (Int × Int)) : Int := (l.map fun q => nB (px W H f q.1 q.2)).sum
theorem wS_ar (W H : Nat) (f : Nat → Bool) (x y : Int) : wS W H f (arN x y 9) = edgeK W H f x y 4 := by
  have e : arN x y 9 = [(x, y - 1), (x - 1, y), (x + 1, y), (x, y + 1)] := by
    have : (List.range 9).filter arIs = [1, 3, 5, 7] := by decide
    rw [arN, this]
    have a1 : ((1 / 3 : Nat) : Int) = 0 := rfl
    have a2 : ((3 % 3 : Nat) : Int) = 0 := rfl
    have a3 : ((3 / 3 : Nat) : Int) = 1 := rfl
    have a4 : ((1 % 3 : Nat) : Int) = 1 := rfl
    have a5 : ((5 % 3 : Nat) : Int) = 2 := rfl
    have a6 : ((5 / 3 : Nat) : Int) = 1 := rfl
    have a7 : ((7 % 3 : Nat) : Int) = 1 := rfl
    have a8 : ((7 / 3 : Nat) : Int) = 2 := rfl
    simp only [List.map_cons, List.map_nil, a1, a2, a3, a4, a5, a6, a7, a8, List.cons.injEq, Prod.mk.injEq, and_true]
    omega
  rw [e]
  simp only [wS, List.map_cons, List.map_nil, List.sum_cons, List.sum_nil, edgeK]
  have h0 : x + wayX ((0 : Nat) : Int) = x + 1 := rfl
  have h1 : y + wayY ((0 : Nat) : Int) = y := by show y + 0 = y; omega
  have h2 : x + wayX ((1 : Nat) : Int) = x := by show x + 0 = x; omega
  have h3 : y + wayY ((1 : Nat) : Int) = y + 1 := rfl
  have h4 : x + wayX ((2 : Nat) : Int) = x - 1 := rfl
  have h5 : y + wayY ((2 : Nat) : Int) = y := by show y + 0 = y; omega
  have h6 : x + wayX ((3 : Nat) : Int) = x := by show x + 0 = x; omega
  have h7 : y + wayY ((3 : Nat) : Int) = y - 1 := rfl
  rw [h0, h1, h2, h3, h4, h5, h6, h7]
  omega
def eS (W H : Nat) (f : Nat → Bool) (l : List (Int × Int)) : Int := (l.map fun s => wS W H f (arN s.1 s.2 9)).sum
theorem eS_spots (W H : Nat) (f : Nat → Bool) (n : Nat) : eS W H f (spotsTo W f n) = edgesN W H f n := by
  induction n with
  | zero => rfl
  | succ n ih =>
    rw [spotsTo_succ, eS, List.map_append, List.sum_append, edgesN, ← ih]
    cases h : f n <;> simp [eS, wS_ar]

set_option maxHeartbeats 400000 in
theorem l04X_any (k : Int) (w : World) : Calls Try.prog 75 #[.int .i64 k] w fun e w' => e = .returned (.int .i64 (wayX k)) ∧ w = w' := by
  go_enter Try.func75, Try.ntmps75
  go_wp2
  all_goals
    go_ret
    exact ⟨ret_int (by unfold wayX; split <;> (try split) <;> simp_all), rfl⟩
set_option maxHeartbeats 400000 in
theorem l04Y_any (k : Int) (w : World) : Calls Try.prog 76 #[.int .i64 k] w fun e w' => e = .returned (.int .i64 (wayY k)) ∧ w = w' := by
  go_enter Try.func76, Try.ntmps76
  go_wp2
  all_goals
    go_ret
    exact ⟨ret_int (by unfold wayY; split <;> (try split) <;> simp_all), rfl⟩
set_option maxHeartbeats 400000 in
theorem oneIf_not (b : Bool) (w : World) : Calls Try.prog 78 #[.bool (!b)] w fun e w' => e = .returned (.int .i64 (nB b)) ∧ w = w' := by
  cases b
  all_goals
    go_enter Try.func78, Try.ntmps78
    go_wp2
    go_ret
    exact ⟨rfl, rfl⟩
end Go.Proofs.Ytakoklldmdbphaa
