/- Contracts of the smallest functions: in, l00In, sizes. -/
import Derived.Test.YtakoklldmdbphaaPicDefs
set_option linter.unusedVariables false
namespace Go.Proofs.Ytakoklldmdbphaa
open Go.RowKit
set_option maxHeartbeats 400000 in
theorem in_any (n lo hi : Int) (w : World) :
    Calls Try.prog 87 #[.int .i64 n, .int .i64 lo, .int .i64 hi] w fun e w' => e = .returned (.bool (inB n lo hi)) ∧ w = w' := by
  by_cases h : lo ≤ n
  · go_enter Try.func87, Try.ntmps87
    go_wp2
    go_ret
    exact ⟨by simp [inB, h], rfl⟩
  · go_enter Try.func87, Try.ntmps87
    go_wp2
    go_ret
    exact ⟨by simp [inB, Int.not_le.2 h], rfl⟩
set_option maxHeartbeats 400000 in
theorem l00In_any (n lo hi : Int) (w : World) :
    Calls Try.prog 99 #[.int .i64 n, .int .i64 lo, .int .i64 hi] w fun e w' => e = .returned (.bool (inB n lo hi)) ∧ w = w' := by
  by_cases h : lo ≤ n
  · go_enter Try.func99, Try.ntmps99
    go_wp2
    go_ret
    exact ⟨by simp [inB, h], rfl⟩
  · go_enter Try.func99, Try.ntmps99
    go_wp2
    go_ret
    exact ⟨by simp [inB, Int.not_le.2 h], rfl⟩


def sizeOkB (a b : Int) : Bool := inB a 1 16 && inB b 1 16
set_option maxHeartbeats 400000 in
theorem sizeOk_any (a b : Int) (w : World) :
    Calls Try.prog 85 #[.int .i64 a, .int .i64 b] w fun e w' => e = .returned (.bool (sizeOkB a b)) ∧ w = w' := by
  cases h : inB a 1 16
  all_goals
    go_enter Try.func85, Try.ntmps85
    go_wp2_with (go_at_call 87; refine (in_any _ _ _ _).mono ?_; rintro e w' ⟨rfl, rfl⟩)
    go_ret
    exact ⟨by simp [sizeOkB, h], rfl⟩
set_option maxHeartbeats 400000 in
theorem l01Side_any (a : Int) (w : World) : Calls Try.prog 97 #[.int .i64 a] w fun e w' => e = .returned (.bool (inB a 1 16)) ∧ w = w' := by
  go_enter Try.func97, Try.ntmps97
  go_wp2_with (go_at_call 99; refine (l00In_any _ _ _ _).mono ?_; rintro e w' ⟨rfl, rfl⟩)
  go_ret
  exact ⟨rfl, rfl⟩
end Go.Proofs.Ytakoklldmdbphaa
