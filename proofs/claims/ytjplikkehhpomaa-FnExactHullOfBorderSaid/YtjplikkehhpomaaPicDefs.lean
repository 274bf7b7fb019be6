/- Plain definitions and lemmas on pictures as lists of strings. -/
import Derived.Test.YtjplikkehhpomaaLawStr
set_option linter.unusedVariables false
namespace Go.Proofs.Ytjplikkehhpomaa
open Go.RowKit

def inB (n lo hi : Int) : Bool := decide (lo ≤ n) && decide (n ≤ hi)
theorem inB_true {n lo hi : Int} (h : inB n lo hi = true) : lo ≤ n ∧ n ≤ hi := by simpa [inB] using h
theorem inB_mk {n lo hi : Int} (h1 : lo ≤ n) (h2 : n ≤ hi) : inB n lo hi = true := by simp [inB, h1, h2]

/-- The string in row y. -/
abbrev rowS (ss : List ByteArray) (y : Nat) : ByteArray := ss.getD y ByteArray.empty
def okB (b : UInt8) : Bool := b == 35 || b == 46
def okRow (n : Nat) (s : ByteArray) : Bool := decide (s.size = n) && s.data.toList.all okB
def wid (ss : List ByteArray) : Nat := (ss.getD 0 ByteArray.empty).size
def okPic (ss : List ByteArray) : Bool := inB ss.length 1 16 && inB (wid ss) 1 16 && ss.all (okRow (wid ss))

theorem all_take_succ (p : UInt8 → Bool) (s : ByteArray) (k : Nat) (h : k < s.size) : (s.data.toList.take (k + 1)).all p = ((s.data.toList.take k).all p && p s[k]) := by
  rw [List.take_succ_eq_append_getElem (by simpa using h)]
  simp only [List.all_append, List.all_cons, List.all_nil, Bool.and_true]
  rfl
theorem all_of_stop (p : UInt8 → Bool) (s : ByteArray) (k : Nat) (h : k < s.size) (hp : p s[k] = false) : s.data.toList.all p = false := by
  rw [List.all_eq_false]
  exact ⟨s[k], by simp [ByteArray.getElem_eq_getElem_data], by simp [hp]⟩
theorem all_full (p : UInt8 → Bool) (s : ByteArray) : (s.data.toList.take s.size).all p = s.data.toList.all p := by rw [List.take_of_length_le (by simp)]

theorem rows_take_succ (q : ByteArray → Bool) (ss : List ByteArray) (k : Nat) (h : k < ss.length) : (ss.take (k + 1)).all q = ((ss.take k).all q && q (ss.getD k ByteArray.empty)) := by
  rw [List.take_succ_eq_append_getElem h, getD_eq h, List.all_append, List.all_cons, List.all_nil, Bool.and_true]
theorem rows_stop (q : ByteArray → Bool) (ss : List ByteArray) (k : Nat) (h : k < ss.length) (hp : q (ss.getD k ByteArray.empty) = false) : ss.all q = false := by
  rw [List.all_eq_false]
  exact ⟨ss.getD k ByteArray.empty, getD_mem h, by rw [hp]; simp⟩
theorem rows_full (q : ByteArray → Bool) (ss : List ByteArray) : (ss.take ss.length).all q = ss.all q := by rw [List.take_of_length_le (Nat.le_refl _)]

theorem okPic_no1 {ss : List ByteArray} (h : inB ss.length 1 16 = false) : okPic ss = false := by simp [okPic, h]
theorem okPic_no2 {ss : List ByteArray} (h : inB (wid ss) 1 16 = false) : okPic ss = false := by simp [okPic, h]
theorem okPic_no3 {ss : List ByteArray} (h : ss.all (okRow (wid ss)) = false) : okPic ss = false := by simp [okPic, h]
theorem okPic_yes {ss : List ByteArray} (h1 : inB ss.length 1 16 = true) (h2 : inB (wid ss) 1 16 = true) (h3 : ss.all (okRow (wid ss)) = true) : okPic ss = true := by simp [okPic, h1, h2, h3]
theorem okPic_row {ss : List ByteArray} (h : okPic ss = true) {y : Nat} (hy : y < ss.length) : (ss.getD y ByteArray.empty).size = wid ss ∧ ∀ x (hx : x < (ss.getD y ByteArray.empty).size), okB ((ss.getD y ByteArray.empty)[x]) = true := by
  simp only [okPic, Bool.and_eq_true, List.all_eq_true] at h
  have := h.2 _ (getD_mem hy)
  simp only [okRow, Bool.and_eq_true, decide_eq_true_eq, List.all_eq_true] at this
  exact ⟨this.1, fun x hx => this.2 _ (by simp [ByteArray.getElem_eq_getElem_data])⟩
theorem okPic_dims {ss : List ByteArray} (h : okPic ss = true) : 1 ≤ ss.length ∧ ss.length ≤ 16 ∧ 1 ≤ wid ss ∧ wid ss ≤ 16 := by
  simp only [okPic, Bool.and_eq_true, inB, decide_eq_true_eq] at h
  omega

theorem byte_35 {b : UInt8} (h : b = 35) : ((b.toNat : Int) != 35) = false := by subst h; rfl
theorem byte_ne {b c : UInt8} (h : ¬ b = c) : ((b.toNat : Int) != (c.toNat : Int)) = true := by
  rw [bne_iff_ne]; intro e; apply h; exact UInt8.toNat_inj.1 (by omega)
theorem byte_eq {b c : UInt8} (h : b = c) : ((b.toNat : Int) != (c.toNat : Int)) = false := by subst h; simp
theorem byte_eqb (b c : UInt8) : ((b.toNat : Int) == (c.toNat : Int)) = (b == c) := by
  by_cases h : b = c
  · subst h; simp
  · rw [beq_eq_false_iff_ne.2 h, beq_eq_false_iff_ne]; intro e; exact h (UInt8.toNat_inj.1 (by omega))
end Go.Proofs.Ytjplikkehhpomaa
