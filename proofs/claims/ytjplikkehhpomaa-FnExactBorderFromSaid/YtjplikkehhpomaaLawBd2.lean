/- Contract of the law's comparing of two equal borders. -/
import Derived.Test.YtjplikkehhpomaaLawBd
import Derived.Test.YtjplikkehhpomaaOpen2
set_option linter.unusedVariables false
set_option linter.unusedSimpArgs false
namespace Go.Proofs.Ytjplikkehhpomaa
open Go.RowKit

set_option maxHeartbeats 2000000 in
theorem eqBorder_same (x y : Int) (s : ByteArray) (w : World) : Calls Try.prog 28 #[.agg #[.int .i64 x, .int .i64 y, .string s], .agg #[.int .i64 x, .int .i64 y, .string s]] w fun e w' => e = .returned (.bool true) ∧ Below w.heap.size w w' := by
  have A := (Blk.new w #[.int .i64 x, .int .i64 y, .string s] 30).alloc (.cells #[.int .i64 x, .int .i64 y, .string s] 30)
  have B := Blk.new (w.alloc (.cells #[.int .i64 x, .int .i64 y, .string s] 30)) #[.int .i64 x, .int .i64 y, .string s] 30
  simp only [World.size_alloc] at B
  have S := ((Since.refl w).alloc (.cells #[.int .i64 x, .int .i64 y, .string s] 30)).alloc (.cells #[.int .i64 x, .int .i64 y, .string s] 30)
  have c0 := fun w => eqSpot_same x y w
  have a0 := A.cell 0 rfl
  have a1 := A.cell 1 rfl
  have b0 := B.cell 0 rfl
  have b1 := B.cell 1 rfl
  have C0 := Lib.hid c0; clear c0
  go_enter Try.func28, Try.ntmps28
  go_wp2_with fail
  refine (C0.out _).mono ?_
  rintro e w1 ⟨rfl, hb⟩
  replace S := S.bl hb
  have a2 := (A.bl hb).cell 2 rfl
  have b2 := (B.bl hb).cell 2 rfl
  clear hb a0 a1 b0 b1 A B
  go_wp2
  go_ret
  exact ⟨rfl, S.below⟩
end Go.Proofs.Ytjplikkehhpomaa
