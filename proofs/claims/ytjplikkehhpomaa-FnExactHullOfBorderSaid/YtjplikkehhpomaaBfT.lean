/- The plain law of BorderFrom, the reference's way: it comes to the same. -/
import Derived.Test.YtjplikkehhpomaaBfL
import Derived.Test.YtjplikkehhpomaaBdCn
set_option linter.unusedVariables false
set_option linter.unusedSimpArgs false
namespace Go.Proofs.Ytjplikkehhpomaa
open Go.RowKit

/-- Do two spots lie in one row or in one column? -/
def alB (a b : Int × Int) : Bool := decide (a.1 = b.1) || decide (a.2 = b.2)
/-- The steps from one spot to another one in its row or column. -/
def stepT (a b : Int × Int) : ByteArray := ⟨(Lib.repeatL [stepC a b] (stepN a b)).toArray⟩
theorem stepT_eq {a b : Int × Int} (h : stepB a b = true) : stepT a b = stepS a b := by rw [stepS, h, if_pos rfl, stepT]
theorem alB_of {a b : Int × Int} (h : stepB a b = true) : alB a b = true := by
  rw [stepB, Bool.and_eq_true] at h
  exact h.2
theorem stepB_of {a b : Int × Int} (h : alB a b = true) (hne : a ≠ b) : stepB a b = true := by
  rw [stepB, decide_eq_true hne, Bool.true_and]
  exact h
def rfN (l : List (Int × Int)) : Nat → ByteArray
  | 0 => ⟨#[]⟩
  | k + 1 => rfN l k ++ stepT (l.getD k (0, 0)) (nxS l k)
/-- What the reference asks of the first k corners. -/
def rfA (l : List (Int × Int)) (k : Nat) : Bool := (List.range k).all fun i => cornB (nxS l i) && alB (l.getD i (0, 0)) (nxS l i)
theorem rfA_succ (l : List (Int × Int)) (k : Nat) : rfA l (k + 1) = (rfA l k && (cornB (nxS l k) && alB (l.getD k (0, 0)) (nxS l k))) := by simp [rfA, List.range_succ]
theorem rfA_at {l : List (Int × Int)} {k : Nat} (h : rfA l k = true) {i : Nat} (hi : i < k) : cornB (nxS l i) = true ∧ alB (l.getD i (0, 0)) (nxS l i) = true := by
  have := List.all_eq_true.1 h i (List.mem_range.2 hi)
  rwa [Bool.and_eq_true] at this
theorem rfA_no {l : List (Int × Int)} {k : Nat} (hk : k < l.length) (h : (cornB (nxS l k) && alB (l.getD k (0, 0)) (nxS l k)) = false) : rfA l l.length = false := by
  rw [rfA, List.all_eq_false]
  exact ⟨k, List.mem_range.2 hk, by rw [h]; exact Bool.false_ne_true⟩
noncomputable def rfOk (l : List (Int × Int)) : Bool :=
  decide (4 ≤ l.length) && (decide (l.length ≤ 600) && (cornB (l.getD 0 (0, 0)) && (rfA l l.length && (bdB (l.getD 0 (0, 0)).1 (l.getD 0 (0, 0)).2 (rfN l l.length) && decide (cornN (l.getD 0 (0, 0)).1 (l.getD 0 (0, 0)).2 (rfN l l.length) (rfN l l.length).size = l)))))
theorem bfA_at {l : List (Int × Int)} {k : Nat} (h : bfA l k = true) {i : Nat} (hi : i < k) : stepB (l.getD i (0, 0)) (nxS l i) = true := List.all_eq_true.1 h i (List.mem_range.2 hi)
theorem rfN_bf {l : List (Int × Int)} : ∀ k, bfA l k = true → rfN l k = bfN l k
  | 0, _ => rfl
  | k + 1, h => by
    rw [bfA_succ, Bool.and_eq_true] at h
    rw [rfN, bfN, rfN_bf k h.1, stepT_eq h.2]
theorem getD_S {l : List (Int × Int)} {k : Nat} (h : k < l.length) : l.getD k (0, 0) = l[k] := by simp [List.getD, List.getElem?_eq_getElem h]
theorem bf_rf {l : List (Int × Int)} (h : bfOk l = true) : rfOk l = true ∧ rfN l l.length = bfN l l.length := by
  simp only [bfOk, Bool.and_eq_true, decide_eq_true_eq] at h
  obtain ⟨h1, h2, h3, h4, h5, h6⟩ := h
  have e := rfN_bf l.length h4
  refine ⟨?_, e⟩
  simp only [rfOk, Bool.and_eq_true, decide_eq_true_eq, e]
  refine ⟨h1, h2, corn_at h3 (by omega), ?_, h5, h6⟩
  rw [rfA, List.all_eq_true]
  intro i hi
  rw [Bool.and_eq_true]
  exact ⟨corn_nx h3 i (by omega), alB_of (bfA_at h4 (List.mem_range.1 hi))⟩
theorem rf_bf {l : List (Int × Int)} (h : rfOk l = true) : bfOk l = true := by
  simp only [rfOk, Bool.and_eq_true, decide_eq_true_eq] at h
  obtain ⟨h1, h2, h3, h4, h5, h6⟩ := h
  have hr := (cornN_round (bdB_iff.1 h5)).2
  have hne : ∀ i (hi : i < l.length), l.getD i (0, 0) ≠ nxS l i := fun i hi => by
    have hj : (i + 1) % l.length < l.length := Nat.mod_lt _ (by omega)
    have h7 := hr i ((i + 1) % l.length) (by rw [h6]; exact hi) (by rw [h6]; exact hj) (by rw [h6])
    rw [nxS, getD_S hi, getD_S hj]
    simpa only [h6] using h7
  have hA : bfA l l.length = true := by
    rw [bfA, List.all_eq_true]
    intro i hi
    have hi2 := List.mem_range.1 hi
    exact stepB_of (rfA_at h4 hi2).2 (hne i hi2)
  have hc : l.all cornB = true := by
    rw [List.all_eq_true]
    intro s hs
    obtain ⟨i, hi, rfl⟩ := List.getElem_of_mem hs
    by_cases h0 : i = 0
    · subst h0
      rw [← getD_S hi]
      exact h3
    · have h8 := (rfA_at h4 (show i - 1 < l.length by omega)).1
      rw [nxS, show i - 1 + 1 = i by omega, Nat.mod_eq_of_lt hi, getD_S hi] at h8
      exact h8
  have e := rfN_bf l.length hA
  rw [e] at h5 h6
  simp only [bfOk, Bool.and_eq_true, decide_eq_true_eq]
  exact ⟨h1, h2, hc, hA, h5, h6⟩
theorem rf_eq (l : List (Int × Int)) : rfOk l = bfOk l := by
  rw [Bool.eq_iff_iff]
  exact ⟨rf_bf, fun h => (bf_rf h).1⟩
end Go.Proofs.Ytjplikkehhpomaa
