/- The plain law of BorderFrom, the program's way. -/
import Derived.Test.YtjplikkehhpomaaBfA
import Derived.Test.YtjplikkehhpomaaAllSpots
set_option linter.unusedVariables false
set_option linter.unusedSimpArgs false
namespace Go.Proofs.Ytjplikkehhpomaa
open Go.RowKit

theorem stepS_size (a b : Int × Int) : (stepS a b).size ≤ stepN a b := by
  unfold stepS
  split
  · show (Lib.repeatL [stepC a b] (stepN a b)).toArray.size ≤ _
    rw [List.size_toArray, Lib.repeatL_length]
    simp
  · exact Nat.zero_le _
theorem cornB_in {s : Int × Int} (h : cornB s = true) : (0 ≤ s.1 ∧ s.1 ≤ 16) ∧ 0 ≤ s.2 ∧ s.2 ≤ 16 := by
  simp only [cornB, inB, Bool.and_eq_true, decide_eq_true_eq] at h
  exact h
theorem stepN_le {a b : Int × Int} (ha : cornB a = true) (hb : cornB b = true) : stepN a b ≤ 16 := by
  have h1 := cornB_in ha
  have h2 := cornB_in hb
  unfold stepN
  omega
/-- The corner behind corner i. -/
def nxS (l : List (Int × Int)) (i : Nat) : Int × Int := l.getD ((i + 1) % l.length) (0, 0)
/-- The steps from the first k corners on. -/
def bfN (l : List (Int × Int)) : Nat → ByteArray
  | 0 => ⟨#[]⟩
  | k + 1 => bfN l k ++ stepS (l.getD k (0, 0)) (nxS l k)
theorem corn_at {l : List (Int × Int)} (h : l.all cornB = true) {i : Nat} (hi : i < l.length) : cornB (l.getD i (0, 0)) = true := List.all_eq_true.1 h _ (getD_memS hi)
theorem corn_nx {l : List (Int × Int)} (h : l.all cornB = true) (i : Nat) (hl : 0 < l.length) : cornB (nxS l i) = true := corn_at h (Nat.mod_lt _ hl)
theorem bfN_size {l : List (Int × Int)} (h : l.all cornB = true) : ∀ k, k ≤ l.length → (bfN l k).size ≤ 16 * k
  | 0, _ => Nat.zero_le _
  | k + 1, hk => by
    have h1 := bfN_size h k (by omega)
    have h2 := stepS_size (l.getD k (0, 0)) (nxS l k)
    have h3 := stepN_le (corn_at h (show k < l.length by omega)) (corn_nx h k (by omega))
    rw [bfN, ByteArray.size_append]
    omega
/-- Is there a straight way from each of the first k corners to the next one? -/
def bfA (l : List (Int × Int)) (k : Nat) : Bool := (List.range k).all fun i => stepB (l.getD i (0, 0)) (nxS l i)
theorem bfA_succ (l : List (Int × Int)) (k : Nat) : bfA l (k + 1) = (bfA l k && stepB (l.getD k (0, 0)) (nxS l k)) := by simp [bfA, List.range_succ]
theorem bfA_no {l : List (Int × Int)} {k : Nat} (hk : k < l.length) (h : stepB (l.getD k (0, 0)) (nxS l k) = false) : bfA l l.length = false := by
  rw [bfA, List.all_eq_false]
  exact ⟨k, List.mem_range.2 hk, by rw [h]; exact Bool.false_ne_true⟩
noncomputable def bfOk (l : List (Int × Int)) : Bool :=
  decide (4 ≤ l.length) && (decide (l.length ≤ 600) && (l.all cornB && (bfA l l.length && (bdB (l.getD 0 (0, 0)).1 (l.getD 0 (0, 0)).2 (bfN l l.length) && decide (cornN (l.getD 0 (0, 0)).1 (l.getD 0 (0, 0)).2 (bfN l l.length) (bfN l l.length).size = l)))))
noncomputable def bfX (l : List (Int × Int)) : Int := if bfOk l then (l.getD 0 (0, 0)).1 else 0
noncomputable def bfY (l : List (Int × Int)) : Int := if bfOk l then (l.getD 0 (0, 0)).2 else 0
noncomputable def bfS (l : List (Int × Int)) : ByteArray := if bfOk l then bfN l l.length else ⟨#[]⟩
theorem bf_no {l : List (Int × Int)} (h : bfOk l = false) : bfX l = 0 ∧ bfY l = 0 ∧ bfS l = ⟨#[]⟩ := by simp [bfX, bfY, bfS, h]
theorem bf_yes {l : List (Int × Int)} (h : bfOk l = true) : bfX l = (l.getD 0 (0, 0)).1 ∧ bfY l = (l.getD 0 (0, 0)).2 ∧ bfS l = bfN l l.length := by simp [bfX, bfY, bfS, h]
end Go.Proofs.Ytjplikkehhpomaa
