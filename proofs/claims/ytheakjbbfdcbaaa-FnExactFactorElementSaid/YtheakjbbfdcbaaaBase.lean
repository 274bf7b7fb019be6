/- Contracts of the smallest functions: in, l00In, sizes. -/
import Derived.Test.YtheakjbbfdcbaaaPicDefs
set_option linter.unusedVariables false
namespace Go.Proofs.Ytheakjbbfdcbaaa
open Go.RowKit
set_option maxHeartbeats 400000 in
theorem in_any (n lo hi : Int) (w : World) :
    Calls Try.prog 48 #[.int .i64 n, .int .i64 lo, .int .i64 hi] w fun e w' => e = .returned (.bool (inB n lo hi)) ∧ w = w' := by
  by_cases h : lo ≤ n
  · go_enter Try.func48, Try.ntmps48
    go_wp2
    go_ret
    exact ⟨by simp [inB, h], rfl⟩
  · go_enter Try.func48, Try.ntmps48
    go_wp2
    go_ret
    exact ⟨by simp [inB, Int.not_le.2 h], rfl⟩
set_option maxHeartbeats 400000 in
theorem l00In_any (n lo hi : Int) (w : World) :
    Calls Try.prog 51 #[.int .i64 n, .int .i64 lo, .int .i64 hi] w fun e w' => e = .returned (.bool (inB n lo hi)) ∧ w = w' := by
  by_cases h : lo ≤ n
  · go_enter Try.func51, Try.ntmps51
    go_wp2
    go_ret
    exact ⟨by simp [inB, h], rfl⟩
  · go_enter Try.func51, Try.ntmps51
    go_wp2
    go_ret
    exact ⟨by simp [inB, Int.not_le.2 h], rfl⟩


def sizeOkB (a b : Int) : Bool := inB a 1 16 && inB b 1 16
set_option maxHeartbeats 400000 in
theorem sizeOk_any (a b : Int) (w : World) :
    Calls Try.prog 69 #[.int .i64 a, .int .i64 b] w fun e w' => e = .returned (.bool (sizeOkB a b)) ∧ w = w' := by
  cases h : inB a 1 16
  all_goals
    go_enter Try.func69, Try.ntmps69
    go_wp2_with (go_at_call 48; refine (in_any _ _ _ _).mono ?_; rintro e w' ⟨rfl, rfl⟩)
    go_ret
    exact ⟨by simp [sizeOkB, h], rfl⟩
set_option maxHeartbeats 400000 in
theorem l01Side_any (a : Int) (w : World) : Calls Try.prog 67 #[.int .i64 a] w fun e w' => e = .returned (.bool (inB a 1 16)) ∧ w = w' := by
  go_enter Try.func67, Try.ntmps67
  go_wp2_with (go_at_call 51; refine (l00In_any _ _ _ _).mono ?_; rintro e w' ⟨rfl, rfl⟩)
  go_ret
  exact ⟨rfl, rfl⟩
end Go.Proofs.Ytheakjbbfdcbaaa
