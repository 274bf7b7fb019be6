/- The reference's search for a way, in plain words; the contract of its max. -/
import Derived.Test.YtjplikkehhpomaaBfT
set_option linter.unusedVariables false
set_option linter.unusedSimpArgs false
namespace Go.Proofs.Ytjplikkehhpomaa
open Go.RowKit

theorem l00Max_any (a b : Int) (w : World) : Calls Try.prog 54 #[.int .i64 a, .int .i64 b] w fun e w' => e = .returned (.int .i64 (max a b)) ∧ w' = w := by
  by_cases h : b < a
  · have e : max a b = a := by omega
    rw [e]
    clear e
    go_enter Try.func54, Try.ntmps54
    go_wp2
    go_ret
    exact ⟨rfl, rfl⟩
  · have e : max a b = b := by omega
    rw [e]
    clear e
    have h2 : a ≤ b := by omega
    go_enter Try.func54, Try.ntmps54
    go_wp2
    go_ret
    exact ⟨rfl, rfl⟩
theorem max_abs (a b : Int) : max (a - b) (b - a) = ((a - b).natAbs : Int) := by omega
/-- Does way v lead from one spot to another one? -/
def okW (a b : Int × Int) (v : Int) : Bool := decide (a.1 + dX v * ((a.1 - b.1).natAbs : Int) = b.1) && decide (a.2 + dY v * ((a.2 - b.2).natAbs : Int) = b.2)
/-- The letter of a way. -/
def wayC (v : Nat) : UInt8 := if v = 0 then 114 else if v = 1 then 100 else if v = 2 then 108 else 117
theorem okW_none {a b : Int × Int} (h : alB a b = false) (v : Nat) (hv : v < 4) : okW a b v = false := by
  obtain ⟨a1, a2⟩ := a
  obtain ⟨b1, b2⟩ := b
  simp only [alB, Bool.or_eq_false_iff, decide_eq_false_iff_not] at h
  rw [okW, Bool.and_eq_false_iff, decide_eq_false_iff_not, decide_eq_false_iff_not]
  dsimp only
  have : v = 0 ∨ v = 1 ∨ v = 2 ∨ v = 3 := by omega
  rcases this with rfl | rfl | rfl | rfl <;> simp [dX, dY] <;> omega
theorem okW_first {a b : Int × Int} (h : alB a b = true) : ∃ v : Nat, v < 4 ∧ okW a b v = true ∧ (∀ u : Nat, u < v → okW a b u = false) ∧ b.1 = a.1 + (stepN a b : Int) * dX v ∧ b.2 = a.2 + (stepN a b : Int) * dY v ∧ (a ≠ b → wayC v = stepC a b) := by
  obtain ⟨a1, a2⟩ := a
  obtain ⟨b1, b2⟩ := b
  simp only [alB, Bool.or_eq_true, decide_eq_true_eq] at h
  have hcs : (a2 = b2 ∧ a1 ≤ b1) ∨ (a1 = b1 ∧ a2 < b2) ∨ (a2 = b2 ∧ b1 < a1) ∨ (a1 = b1 ∧ b2 < a2) := by omega
  have hu : ∀ n u : Nat, n < 4 → u < n → (u = 0 ∧ 1 ≤ n) ∨ (u = 1 ∧ 2 ≤ n) ∨ (u = 2 ∧ 3 ≤ n) := fun n u _ _ => by omega
  rcases hcs with ⟨rfl, g⟩ | ⟨rfl, g⟩ | ⟨rfl, g⟩ | ⟨rfl, g⟩
  · refine ⟨0, by omega, ?_, fun u h => absurd h (by omega), ?_, ?_, fun hne => ?_⟩
    · rw [okW, Bool.and_eq_true, decide_eq_true_eq, decide_eq_true_eq]
      simp [dX, dY]
      omega
    · simp [dX, stepN]; omega
    · simp [dY, stepN]
    · have : a1 ≠ b1 := fun e => hne (by rw [e])
      simp [wayC, stepC, show ¬ b1 < a1 by omega]
  · refine ⟨1, by omega, ?_, fun u h => ?_, ?_, ?_, fun hne => ?_⟩
    · rw [okW, Bool.and_eq_true, decide_eq_true_eq, decide_eq_true_eq]
      simp [dX, dY]
      omega
    · obtain rfl : u = 0 := by omega
      rw [okW, Bool.and_eq_false_iff, decide_eq_false_iff_not, decide_eq_false_iff_not]
      simp [dX, dY]
      omega
    · simp [dX, stepN]
    · simp [dY, stepN]; omega
    · simp [wayC, stepC, g]
  · refine ⟨2, by omega, ?_, fun u h => ?_, ?_, ?_, fun hne => ?_⟩
    · rw [okW, Bool.and_eq_true, decide_eq_true_eq, decide_eq_true_eq]
      simp [dX, dY]
      omega
    · rw [okW, Bool.and_eq_false_iff, decide_eq_false_iff_not, decide_eq_false_iff_not]
      have : u = 0 ∨ u = 1 := by omega
      rcases this with rfl | rfl <;> simp [dX, dY] <;> omega
    · simp [dX, stepN]; omega
    · simp [dY, stepN]
    · simp [wayC, stepC, g]
  · refine ⟨3, by omega, ?_, fun u h => ?_, ?_, ?_, fun hne => ?_⟩
    · rw [okW, Bool.and_eq_true, decide_eq_true_eq, decide_eq_true_eq]
      simp [dX, dY]
      omega
    · rw [okW, Bool.and_eq_false_iff, decide_eq_false_iff_not, decide_eq_false_iff_not]
      have : u = 0 ∨ u = 1 ∨ u = 2 := by omega
      rcases this with rfl | rfl | rfl <;> simp [dX, dY] <;> omega
    · simp [dX, stepN]
    · simp [dY, stepN]; omega
    · simp [wayC, stepC, g, show ¬ a2 < b2 by omega]
end Go.Proofs.Ytjplikkehhpomaa
