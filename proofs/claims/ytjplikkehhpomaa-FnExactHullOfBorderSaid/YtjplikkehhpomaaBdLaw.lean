/- The plain law of borders: what a border's steps are, and when it is one. -/
import Derived.Test.YtjplikkehhpomaaBase
set_option linter.unusedVariables false
namespace Go.Proofs.Ytjplikkehhpomaa
open Go.RowKit

def byteAt (s : ByteArray) (k : Nat) : UInt8 := s.data.getD k 0
theorem byteAt_get {s : ByteArray} {k : Nat} (h : k < s.size) : s[k] = byteAt s k := by
  have h' : k < s.data.size := h
  simp only [byteAt, Array.getD, h', dite_true]
  rfl
/-- The direction of a letter. -/
def wayOf (c : UInt8) : Int := if c.toNat = 114 then 0 else if c.toNat = 100 then 1 else if c.toNat = 108 then 2 else if c.toNat = 117 then 3 else -1
theorem wayOf_in (c : UInt8) : -1 ≤ wayOf c ∧ wayOf c ≤ 3 := by
  unfold wayOf
  split; · omega
  split; · omega
  split; · omega
  split <;> omega
/-- The direction of a step. -/
def way (s : ByteArray) (k : Nat) : Int := wayOf (byteAt s k)
theorem way_in (s : ByteArray) (k : Nat) : -1 ≤ way s k ∧ way s k ≤ 3 := wayOf_in _
/-- The corner behind a step. -/
def nxt (p : Int × Int) (k : Int) : Int × Int :=
  if k = 0 then (wrap64 (p.1 + 1), p.2) else if k = 1 then (p.1, wrap64 (p.2 + 1)) else if k = 2 then (wrap64 (p.1 - 1), p.2) else (p.1, wrap64 (p.2 - 1))
/-- The corner ahead of step k. -/
def pos (x y : Int) (s : ByteArray) : Nat → Int × Int
  | 0 => (x, y)
  | k + 1 => nxt (pos x y s k) (way s k)
def edge (x y : Int) (s : ByteArray) (k : Nat) : Int × Int × Int := ((pos x y s k).1, (pos x y s k).2, way s k)
def edges (x y : Int) (s : ByteArray) (n : Nat) : List (Int × Int × Int) := (List.range n).map (edge x y s)
theorem edges_len (x y : Int) (s : ByteArray) (n : Nat) : (edges x y s n).length = n := by simp [edges]
theorem edges_succ (x y : Int) (s : ByteArray) (n : Nat) : edges x y s (n + 1) = edges x y s n ++ [edge x y s n] := by simp [edges, List.range_succ]
theorem edges_at {x y : Int} {s : ByteArray} {n k : Nat} (h : k < n) (d : Int × Int × Int) : (edges x y s n).getD k d = edge x y s k := by
  simp [edges, List.getD, List.getElem?_map, List.getElem?_range h]
def corner (p : Int × Int) : Prop := (0 ≤ p.1 ∧ p.1 ≤ 16) ∧ 0 ≤ p.2 ∧ p.2 ≤ 16
/-- The number of a step. -/
def stepNo (x y : Int) (s : ByteArray) (k : Nat) : Int := ((pos x y s k).2 * 17 + (pos x y s k).1) * 4 + way s k
theorem stepNo_inj {x y : Int} {s : ByteArray} {j k : Nat} (hj : corner (pos x y s j)) (hk : corner (pos x y s k)) (wj : 0 ≤ way s j) (wk : 0 ≤ way s k) :
    stepNo x y s j = stepNo x y s k ↔ edge x y s j = edge x y s k := by
  have a := (way_in s j).2
  have b := (way_in s k).2
  obtain ⟨⟨h1, h2⟩, h3, h4⟩ := hj
  obtain ⟨⟨k1, k2⟩, k3, k4⟩ := hk
  unfold stepNo edge
  constructor
  · intro h
    simp only [Prod.mk.injEq]
    refine ⟨?_, ?_, ?_⟩ <;> omega
  · intro h
    simp only [Prod.mk.injEq] at h
    obtain ⟨e1, e2, e3⟩ := h
    rw [e1, e2, e3]
theorem stepNo_in {x y : Int} {s : ByteArray} {k : Nat} (hk : corner (pos x y s k)) (wk : 0 ≤ way s k) : 0 ≤ stepNo x y s k ∧ stepNo x y s k < 1156 := by
  have b := (way_in s k).2
  obtain ⟨⟨k1, k2⟩, k3, k4⟩ := hk
  unfold stepNo
  constructor <;> omega
/-- The step ahead of step i in a round of n. -/
def lastOf (n i : Nat) : Nat := (i + n - 1) % n
theorem lastOf_lt {n i : Nat} (h : 0 < n) : lastOf n i < n := Nat.mod_lt _ h
/-- What is asked of step i. -/
structure StepOk (x y : Int) (s : ByteArray) (i : Nat) : Prop where
  letter : 0 ≤ way s i
  at0 : corner (pos x y s i)
  turn : ¬ (way s (lastOf s.size i) + 2) % 4 = way s i
  fresh : ∀ j < i, ¬ edge x y s j = edge x y s i
/-- What a border is. -/
structure Bd (x y : Int) (s : ByteArray) : Prop where
  lo : 4 ≤ s.size
  hi : s.size ≤ 600
  step : ∀ i < s.size, StepOk x y s i
  back : pos x y s s.size = (x, y)
open Classical in
noncomputable def bdB (x y : Int) (s : ByteArray) : Bool := decide (Bd x y s)
theorem bdB_true {x y : Int} {s : ByteArray} (h : Bd x y s) : bdB x y s = true := by simp [bdB, h]
theorem bdB_false {x y : Int} {s : ByteArray} (h : ¬ Bd x y s) : bdB x y s = false := by simp [bdB, h]
theorem bdB_iff {x y : Int} {s : ByteArray} : bdB x y s = true ↔ Bd x y s := by simp [bdB]
/-- All letters are right. -/
def waysOk (s : ByteArray) (n : Nat) : Prop := ∀ i < n, 0 ≤ way s i
theorem way_zero (s : ByteArray) (k : Nat) (h : k = 0 ∨ True) : True := trivial
def small (p : Int × Int) : Prop := (-9223372036854775808 ≤ p.1 ∧ p.1 ≤ 9223372036854775807) ∧ (-9223372036854775808 ≤ p.2 ∧ p.2 ≤ 9223372036854775807)
theorem wrap_in (x : Int) : -9223372036854775808 ≤ wrap64 x ∧ wrap64 x ≤ 9223372036854775807 := by
  unfold wrap64
  omega
theorem small_nxt {p : Int × Int} (h : small p) (k : Int) : small (nxt p k) := by
  unfold nxt
  split; · exact ⟨wrap_in _, h.2⟩
  split; · exact ⟨h.1, wrap_in _⟩
  split; · exact ⟨wrap_in _, h.2⟩
  exact ⟨h.1, wrap_in _⟩
theorem small_pos {x y : Int} (h : small (x, y)) (s : ByteArray) : ∀ k, small (pos x y s k)
  | 0 => h
  | k + 1 => small_nxt (small_pos h s k) _
theorem wrap_id {x : Int} (h : -9223372036854775808 ≤ x ∧ x ≤ 9223372036854775807) : wrap64 x = x := by
  unfold wrap64
  omega
end Go.Proofs.Ytjplikkehhpomaa
