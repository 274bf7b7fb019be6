/- Plain law: the leaves of a tree are those of its picture; their bounds. -/
import Derived.Test.YtnenogpagkepfaaTreeI5
import Derived.Test.YtnenogpagkepfaaTreeS6
set_option linter.unusedVariables false
set_option linter.unusedSimpArgs false
namespace Go.Proofs.Ytnenogpagkepfaa
open Go.RowKit

theorem treeV_is {n : Int} {s : ByteArray} (h : treeV n s = true) : sideB n = true ∧ ∃ T, pAt s (lg n) 0 = some (T, s.size) ∧ T.canon = true ∧ T.deep (lg n) = true := by
  unfold treeV treeOk at h
  cases hs : sideB n with
  | false => rw [hs] at h; cases h
  | true =>
    refine ⟨rfl, ?_⟩
    rw [hs, Bool.true_and] at h
    split at h
    · rename_i T p e
      simp only [Bool.and_eq_true, decide_eq_true_eq] at h
      have h1 := (pAt_print s (lg n) 0 T p e).1
      have : p = s.size := by omega
      subst this
      exact ⟨T, e, by simp [h], h1⟩
    · cases h
theorem pf_tree {n : Int} {s : ByteArray} {T : QT} {m : Nat} (h : pAt s (lg n) 0 = some (T, m)) {i j : Nat} (hi : i < 2 ^ lg n) (hj : j < 2 ^ lg n) : pf (wid (treeL n s)) (treeL n s).length (bits (treeL n s)) i j = T.col (lg n) i j := by
  have hk := pow_le4 (lg_le n)
  rw [pf, treeL, wid_render hk.1, render_len, px_render hk.1, px_at hi hj, treeF, h]
  simp only
  have e1 : (j * 2 ^ lg n + i) % 2 ^ lg n = i := by rw [Nat.mul_comm, Nat.mul_add_mod]; exact Nat.mod_eq_of_lt hi
  have e2 : (j * 2 ^ lg n + i) / 2 ^ lg n = j := by rw [Nat.mul_comm, Nat.mul_add_div (pow_pos2 _), Nat.div_eq_of_lt hi, Nat.add_zero]
  rw [e1, e2]
theorem qt_tree {n : Int} {s : ByteArray} {T : QT} (h : pAt s (lg n) 0 = some (T, s.size)) (hc : T.canon = true) (hd : T.deep (lg n) = true) : qt (lg n) (pf (wid (treeL n s)) (treeL n s).length (bits (treeL n s))) 0 0 = T := by
  rw [← qt_col T (lg n) hc hd]
  apply qt_congr
  intro i j hi hj
  rw [Nat.zero_add, Nat.zero_add]
  exact pf_tree h hi hj
theorem lv_tree {n : Int} {s : ByteArray} {T : QT} (h : pAt s (lg n) 0 = some (T, s.size)) (hc : T.canon = true) : treeLv n s = T.leaves (lg n) 0 0 ByteArray.empty := by
  rw [treeLv]
  exact (rs_some (rC_some.2 ⟨h, hc⟩) 0 0 ByteArray.empty).2
theorem leaves_tie {n : Int} {s : ByteArray} (h : treeV n s = true) : (qt (lg n) (pf (wid (treeL n s)) (treeL n s).length (bits (treeL n s))) 0 0).leaves (lg n) 0 0 ByteArray.empty = treeLv n s := by
  obtain ⟨_, T, hp, hc, hd⟩ := treeV_is h
  rw [qt_tree hp hc hd, lv_tree hp hc]
/-- The bounds of a leaf in a square. -/
def LeafIn (k x y m : Nat) (l : QLeaf) : Prop := x ≤ l.x ∧ l.x + l.side ≤ x + 2 ^ k ∧ y ≤ l.y ∧ l.y + l.side ≤ y + 2 ^ k ∧ 1 ≤ l.side ∧ l.addr.size ≤ m + k
theorem leaves_bd : ∀ (k : Nat) (T : QT) (x y : Nat) (p : ByteArray), T.deep k = true → ∀ l ∈ T.leaves k x y p, LeafIn k x y p.size l := by
  intro k
  induction k with
  | zero =>
    intro T x y p h l hl
    cases T with
    | leaf b =>
      simp only [QT.leaves, List.mem_singleton] at hl
      subst hl
      exact ⟨Nat.le_refl _, Nat.le_refl _, Nat.le_refl _, Nat.le_refl _, by simp, Nat.le_refl _⟩
    | node a b c d => cases h
  | succ k ih =>
    intro T x y p h l hl
    have hM : 2 ^ (k + 1) = 2 ^ k + 2 ^ k := by rw [Nat.pow_succ]; omega
    have hp := pow_pos2 k
    cases T with
    | leaf b =>
      simp only [QT.leaves, List.mem_singleton] at hl
      subst hl
      exact ⟨Nat.le_refl _, Nat.le_refl _, Nat.le_refl _, Nat.le_refl _, by simp only; omega, Nat.le_add_right _ _⟩
    | node a b c d =>
      simp only [QT.deep, Bool.and_eq_true] at h
      obtain ⟨⟨⟨ha, hb⟩, hc⟩, hd⟩ := h
      have az : ∀ u, (p ++ addrB u).size = p.size + 1 := fun u => by rw [ByteArray.size_append]; rfl
      simp only [QT.leaves, Nat.add_sub_cancel, List.mem_append] at hl
      rcases hl with hl | hl | hl | hl
      · have := ih _ _ _ _ ha l hl
        unfold LeafIn at this ⊢
        rw [az] at this
        omega
      · have := ih _ _ _ _ hb l hl
        unfold LeafIn at this ⊢
        rw [az] at this
        omega
      · have := ih _ _ _ _ hc l hl
        unfold LeafIn at this ⊢
        rw [az] at this
        omega
      · have := ih _ _ _ _ hd l hl
        unfold LeafIn at this ⊢
        rw [az] at this
        omega
/-- The leaves of a tree: how many, their bounds. -/
structure LvOk (l : List QLeaf) : Prop where
  pos : 0 < l.length
  len : l.length ≤ 256
  bd : ∀ i, i < l.length → (l.getD i noLeaf).x + (l.getD i noLeaf).side ≤ 16 ∧ (l.getD i noLeaf).y + (l.getD i noLeaf).side ≤ 16 ∧ 1 ≤ (l.getD i noLeaf).side ∧ (l.getD i noLeaf).addr.size ≤ 4
theorem treeLv_ok {n : Int} {s : ByteArray} (h : treeV n s = true) : LvOk (treeLv n s) := by
  obtain ⟨_, T, hp, hc, hd⟩ := treeV_is h
  rw [lv_tree hp hc]
  have hk := lg_le n
  have h1 := leaves_len (lg n) T 0 0 ByteArray.empty hd
  have h2 : 4 ^ lg n ≤ 4 ^ 4 := Nat.pow_le_pow_right (by omega) hk
  have h4 := pow_le4 hk
  refine ⟨leaves_pos _ _ _ _ _, by omega, ?_⟩
  intro i hi
  have hm : (T.leaves (lg n) 0 0 ByteArray.empty).getD i noLeaf ∈ T.leaves (lg n) 0 0 ByteArray.empty := by
    simp [List.getD, List.getElem?_eq_getElem hi]
  have := leaves_bd _ _ _ _ _ hd _ hm
  unfold LeafIn at this
  have e0 : ByteArray.empty.size = 0 := rfl
  rw [e0] at this
  omega
end Go.Proofs.Ytnenogpagkepfaa
