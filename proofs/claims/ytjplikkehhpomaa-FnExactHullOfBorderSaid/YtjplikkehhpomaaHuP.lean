/- The chain of a hull, step by step, as the program's list holds it. -/
import Derived.Test.YtjplikkehhpomaaBdHull
set_option linter.unusedVariables false
namespace Go.Proofs.Ytjplikkehhpomaa.Hull

/-- The program's list behind the first k corners. -/
def outL (l : List (Int × Int)) (k : Nat) : List (Int × Int) := (chainS (l.take k)).reverse
theorem outL_zero (l : List (Int × Int)) : outL l 0 = [] := rfl
theorem outL_all (l : List (Int × Int)) : outL l l.length = (chainS l).reverse := by rw [outL, List.take_length]
theorem chain_succ {l : List (Int × Int)} {k : Nat} (hk : k < l.length) : chainS (l.take (k + 1)) = l.getD k (0, 0) :: popS (chainS (l.take k)) (l.getD k (0, 0)) := by
  have e : l.take (k + 1) = l.take k ++ [l.getD k (0, 0)] := by
    rw [List.take_add_one, List.getElem?_eq_getElem hk]
    simp [List.getD, List.getElem?_eq_getElem hk]
  rw [e, chainS, List.foldl_append]
  rfl
theorem popS_len : ∀ (st : List (Int × Int)) (s : Int × Int), (popS st s).length ≤ st.length
  | [], s => Nat.le_refl _
  | [t], s => Nat.le_refl _
  | b :: a :: r, s => by
    rw [popS]
    split
    · have := popS_len (a :: r) s
      simp only [List.length_cons] at this ⊢
      omega
    · exact Nat.le_refl _
theorem outL_len {l : List (Int × Int)} : ∀ k, k ≤ l.length → (outL l k).length ≤ k
  | 0, _ => Nat.le_refl _
  | k + 1, h => by
    have h1 := outL_len k (show k ≤ l.length by omega)
    have h2 := popS_len (chainS (l.take k)) (l.getD k (0, 0))
    rw [outL, List.length_reverse] at h1 ⊢
    rw [chain_succ (by omega), List.length_cons]
    omega
theorem outL_mem {l : List (Int × Int)} : ∀ k, k ≤ l.length → ∀ x ∈ outL l k, x ∈ l
  | 0, _, x, hx => by cases hx
  | k + 1, h, x, hx => by
    rw [outL, List.mem_reverse, chain_succ (by omega)] at hx
    rcases List.mem_cons.1 hx with rfl | hx
    · have hk : k < l.length := by omega
      simp [List.getD, List.getElem?_eq_getElem hk]
    · exact outL_mem k (by omega) x (by rw [outL, List.mem_reverse]; exact popS_mem _ _ _ hx)
theorem outL_pos {l : List (Int × Int)} {k : Nat} (hk : k < l.length) : 0 < (outL l (k + 1)).length := by
  rw [outL, List.length_reverse, chain_succ hk]
  simp
/-- What the pops make of the first j ones. -/
def tkP (O : List (Int × Int)) (s : Int × Int) (j : Nat) : List (Int × Int) := popS (O.take j).reverse s
theorem tkP_start (l : List (Int × Int)) (k : Nat) (s : Int × Int) : tkP (outL l k) s (outL l k).length = popS (chainS (l.take k)) s := by
  rw [tkP, List.take_length, outL, List.reverse_reverse]
theorem tkP_le {O : List (Int × Int)} {s : Int × Int} {j : Nat} (h : j ≤ 1) : tkP O s j = (O.take j).reverse := by
  have hl : ((O.take j).reverse).length ≤ 1 := by
    rw [List.length_reverse, List.length_take]
    omega
  rw [tkP]
  generalize (O.take j).reverse = t at *
  match t, hl with
  | [], _ => rfl
  | [x], _ => rfl
theorem take_two {O : List (Int × Int)} {j : Nat} (h2 : 2 ≤ j) (hj : j ≤ O.length) : (O.take j).reverse = O.getD (j - 1) (0, 0) :: O.getD (j - 2) (0, 0) :: (O.take (j - 2)).reverse ∧ (O.take (j - 1)).reverse = O.getD (j - 2) (0, 0) :: (O.take (j - 2)).reverse := by
  obtain ⟨i, rfl⟩ : ∃ i, j = i + 2 := ⟨j - 2, by omega⟩
  have e : ∀ i, i < O.length → O.take (i + 1) = O.take i ++ [O.getD i (0, 0)] := fun i h => by
    rw [List.take_add_one, List.getElem?_eq_getElem h]
    simp [List.getD, List.getElem?_eq_getElem h]
  have e1 := e i (by omega)
  have e2 := e (i + 1) (by omega)
  simp only [Nat.add_sub_cancel, show i + 2 - 1 = i + 1 by omega]
  refine ⟨?_, ?_⟩
  · rw [show i + 2 = (i + 1) + 1 from rfl, e2, e1]; simp
  · rw [e1]; simp
theorem tkP_pop {O : List (Int × Int)} {s : Int × Int} {j : Nat} (h2 : 2 ≤ j) (hj : j ≤ O.length) (h : bendZ (O.getD (j - 2) (0, 0)) (O.getD (j - 1) (0, 0)) s ≤ 0) : tkP O s j = tkP O s (j - 1) := by
  obtain ⟨e1, e2⟩ := take_two h2 hj
  rw [tkP, tkP, e1, e2, popS, if_pos h]
theorem tkP_no {O : List (Int × Int)} {s : Int × Int} {j : Nat} (h2 : 2 ≤ j) (hj : j ≤ O.length) (h : ¬ bendZ (O.getD (j - 2) (0, 0)) (O.getD (j - 1) (0, 0)) s ≤ 0) : tkP O s j = (O.take j).reverse := by
  obtain ⟨e1, e2⟩ := take_two h2 hj
  rw [tkP, e1, popS, if_neg h]
theorem outL_succ {l : List (Int × Int)} {k j : Nat} (hk : k < l.length) (h : tkP (outL l k) (l.getD k (0, 0)) j = ((outL l k).take j).reverse) (hs : tkP (outL l k) (l.getD k (0, 0)) j = popS (chainS (l.take k)) (l.getD k (0, 0))) :
    outL l (k + 1) = (outL l k).take j ++ [l.getD k (0, 0)] := by
  rw [outL, chain_succ hk, ← hs, h]
  simp
end Go.Proofs.Ytjplikkehhpomaa.Hull
