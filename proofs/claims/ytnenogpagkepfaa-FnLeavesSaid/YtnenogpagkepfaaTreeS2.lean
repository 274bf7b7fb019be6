/- Contract of the reference's reading of trees. -/
import Derived.Test.YtnenogpagkepfaaTreeS1
import Derived.Test.YtnenogpagkepfaaSpecMk
set_option linter.unusedVariables false
set_option linter.unusedSimpArgs false
namespace Go.Proofs.Ytnenogpagkepfaa
open Go.RowKit

theorem pAt_none {s : ByteArray} {k n : Nat} (h : s.size ≤ n) : pAt s k n = none := by
  have e : s.data[n]? = none := Array.getElem?_eq_none h
  cases k <;> simp [pAt, e]
theorem pAt_leaf {s : ByteArray} {k n : Nat} (h : n < s.size) (b : Bool) (hc : s[n] = colB b) : pAt s k n = some (.leaf b, n + 1) := by
  have e : s.data[n]? = some (colB b) := by rw [← hc]; exact Array.getElem?_eq_getElem h
  cases k <;> cases b <;> simp [pAt, e, colB]
theorem pAt_else {s : ByteArray} {k n : Nat} (h : n < s.size) (h1 : s[n] ≠ 35) (h2 : s[n] ≠ 46) (h3 : s[n] ≠ 40 ∨ k = 0) : pAt s k n = none := by
  have e : s.data[n]? = some s[n] := Array.getElem?_eq_getElem h
  generalize s[n] = c at *
  cases k with
  | zero => simp [pAt, e, h1, h2]
  | succ k =>
    have h4 : c ≠ 40 := by simpa using h3
    simp [pAt, e, h1, h2, h4]
/-- Where reading goes on; -1 where it stops. -/
def rdZ (s : ByteArray) (k : Nat) (z : Int) : Int := if z < 0 then -1 else match pAt s k z.toNat with
  | none => -1
  | some (_, n) => (n : Int)
theorem rdZ_neg {s : ByteArray} {k : Nat} {z : Int} (h : z < 0) : rdZ s k z = -1 := by rw [rdZ, if_pos h]
theorem rdZ_none {s : ByteArray} {k n : Nat} (h : pAt s k n = none) : rdZ s k (n : Int) = -1 := by rw [rdZ, if_neg (by omega), Int.toNat_natCast, h]
theorem rdZ_some {s : ByteArray} {k n m : Nat} {T : QT} (h : pAt s k n = some (T, m)) : rdZ s k (n : Int) = (m : Int) := by rw [rdZ, if_neg (by omega), Int.toNat_natCast, h]
theorem rdZ_bd (s : ByteArray) (k : Nat) (z : Int) : -1 ≤ rdZ s k z ∧ rdZ s k z ≤ s.size := by
  rw [rdZ]
  split
  · omega
  · cases h : pAt s k z.toNat with
    | none => simp
    | some q =>
      obtain ⟨T, n⟩ := q
      have h1 := pAt_print s k _ T n h
      have h2 := print_pos T
      have h3 : n ≤ s.size := by
        have h4 := h1.2.1 (T.print.length - 1) (by omega)
        have h5 := Array.getElem?_eq_some_iff.1 h4
        obtain ⟨h5, _⟩ := h5
        have : s.data.size = s.size := rfl
        omega
      simp only
      omega
/-- The pixels f and those of a tree in a square. -/
def paintT (f : Nat → Bool) (W k x y : Nat) (T : QT) (i : Nat) : Bool := f i || (decide (x ≤ i % W ∧ i % W < x + 2 ^ k ∧ y ≤ i / W ∧ i / W < y + 2 ^ k) && T.col k (i % W - x) (i / W - y))
theorem paint_white (f : Nat → Bool) (W k x y i : Nat) : paintT f W k x y (.leaf false) i = f i := by simp [paintT, QT.col]
/-- .. of a square of one colour: so many of its rows, and so many pixels of the next. -/
def paintR (f : Nat → Bool) (W x y M J I : Nat) (i : Nat) : Bool := f i || decide (x ≤ i % W ∧ y ≤ i / W ∧ ((i / W < y + J ∧ i % W < x + M) ∨ (i / W = y + J ∧ i % W < x + I)))
theorem paintR_start (f : Nat → Bool) (W x y M i : Nat) : paintR f W x y M 0 0 i = f i := by
  rw [paintR, decide_eq_false (by omega), Bool.or_false]
theorem paintR_step {f : Nat → Bool} {W x y M J I : Nat} (hx : x + I < W) (i : Nat) (hI : I < M) : (if i = (y + J) * W + (x + I) then true else paintR f W x y M J I i) = paintR f W x y M J (I + 1) i := by
  have hm := at_mod (y := y + J) hx
  by_cases e : i = (y + J) * W + (x + I)
  · subst e
    rw [if_pos rfl, paintR, hm.1, hm.2, decide_eq_true (by omega), Bool.or_true]
  · rw [if_neg e]
    have h1 : ¬ (i / W = y + J ∧ i % W = x + I) := by
      rintro ⟨h1, h2⟩
      apply e
      have := Nat.div_add_mod i W
      rw [h1, h2] at this
      rw [← this, Nat.mul_comm]
    unfold paintR
    congr 1
    rw [decide_eq_decide]
    omega
theorem paintR_row {f : Nat → Bool} {W x y M J : Nat} (i : Nat) : paintR f W x y M J M i = paintR f W x y M (J + 1) 0 i := by
  unfold paintR
  congr 1
  rw [decide_eq_decide]
  omega
theorem paintR_done {f : Nat → Bool} {W k x y : Nat} (i : Nat) : paintR f W x y (2 ^ k) (2 ^ k) 0 i = paintT f W k x y (.leaf true) i := by
  unfold paintR paintT
  congr 1
  simp only [QT.col, Bool.and_true]
  rw [decide_eq_decide]
  omega
theorem paint_node {f : Nat → Bool} {W k x y : Nat} {a b c d : QT} (i : Nat) :
    paintT (paintT (paintT (paintT f W k x y a) W k (x + 2 ^ k) y b) W k x (y + 2 ^ k) c) W k (x + 2 ^ k) (y + 2 ^ k) d i = paintT f W (k + 1) x y (.node a b c d) i := by
  have e : 2 ^ (k + 1) = 2 ^ k + 2 ^ k := by rw [Nat.pow_succ]; omega
  unfold paintT
  simp only [QT.col, Nat.add_sub_cancel, e]
  generalize i % W = u
  generalize i / W = v
  generalize 2 ^ k = M
  generalize f i = b0
  by_cases h1 : x ≤ u
  · by_cases h2 : y ≤ v
    · by_cases h3 : u < x + M
      · have e1 : u - x < M := by omega
        by_cases h4 : v < y + M
        · have e2 : v - y < M := by omega
          simp only [e1, e2, if_true, h1, h2, h3, h4, show u < x + (M + M) by omega, show v < y + (M + M) by omega, show ¬ x + M ≤ u by omega, show ¬ y + M ≤ v by omega, true_and, false_and, and_false, and_true, decide_true, decide_false, Bool.true_and, Bool.false_and, Bool.or_false]
        · by_cases h5 : v < y + (M + M)
          · have e2 : ¬ v - y < M := by omega
            simp only [e1, e2, if_true, if_false, h1, h2, h3, h4, h5, show u < x + (M + M) by omega, show y + M ≤ v by omega, show v < y + M + M by omega, show ¬ x + M ≤ u by omega, true_and, false_and, and_false, and_true, decide_true, decide_false, Bool.true_and, Bool.false_and, Bool.or_false, show v - (y + M) = v - y - M by omega]
          · simp only [h4, h5, show ¬ v < y + M + M by omega, and_false, false_and, decide_false, Bool.false_and, Bool.or_false]
      · by_cases h6 : u < x + (M + M)
        · have e1 : ¬ u - x < M := by omega
          by_cases h4 : v < y + M
          · have e2 : v - y < M := by omega
            simp only [e1, e2, if_true, if_false, h1, h2, h3, h4, h6, show x + M ≤ u by omega, show u < x + M + M by omega, show v < y + (M + M) by omega, show ¬ y + M ≤ v by omega, true_and, false_and, and_false, and_true, decide_true, decide_false, Bool.true_and, Bool.false_and, Bool.or_false, show u - (x + M) = u - x - M by omega]
          · by_cases h5 : v < y + (M + M)
            · have e2 : ¬ v - y < M := by omega
              simp only [e1, e2, if_false, h1, h2, h3, h4, h5, h6, show x + M ≤ u by omega, show u < x + M + M by omega, show y + M ≤ v by omega, show v < y + M + M by omega, true_and, false_and, and_false, and_true, decide_true, decide_false, Bool.true_and, Bool.false_and, Bool.or_false, show u - (x + M) = u - x - M by omega, show v - (y + M) = v - y - M by omega]
            · simp only [h4, h5, show ¬ v < y + M + M by omega, and_false, false_and, decide_false, Bool.false_and, Bool.or_false]
        · simp only [h3, h6, show ¬ u < x + M + M by omega, and_false, false_and, decide_false, Bool.false_and, Bool.or_false]
    · simp only [h2, show ¬ y + M ≤ v by omega, and_false, false_and, decide_false, Bool.false_and, Bool.or_false]
  · simp only [h1, show ¬ x + M ≤ u by omega, and_false, false_and, decide_false, Bool.false_and, Bool.or_false]
theorem paintT_congr {f g : Nat → Bool} {W k x y : Nat} {T : QT} {i : Nat} (h : f i = g i) : paintT f W k x y T i = paintT g W k x y T i := by rw [paintT, paintT, h]

/-- What reading leaves: the place, the pixels. -/
def RdOut (t : ByteArray) (k W x y g : Nat) (f : Nat → Bool) (z : Int) (w : World) (e : Ending) (w' : World) : Prop :=
  e = .returned (.int .i64 (rdZ t k z)) ∧ w.grownBy w' (some g) ∧ ∃ F, Bools w' g (W * W) F ∧ ∀ T m, 0 ≤ z → pAt t k z.toNat = some (T, m) → ∀ i, i < W * W → F i = paintT f W k x y T i
end Go.Proofs.Ytnenogpagkepfaa
