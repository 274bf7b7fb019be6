/- Contracts of the laws' helpers over borders. -/
import Derived.Test.YtjplikkehhpomaaLawKit
import Derived.Test.YtjplikkehhpomaaLawSpots
import Derived.Test.YtjplikkehhpomaaBdS2
set_option linter.unusedVariables false
namespace Go.Proofs.Ytjplikkehhpomaa
open Go.RowKit

set_option maxHeartbeats 400000 in
theorem szBorder_any (x y : Int) (s : ByteArray) (left : Int) (w : World) (hs : s.size ≤ maxLen) (h0 : 0 ≤ left) (h1 : left ≤ 1048576) :
    Calls Try.prog 9 #[.agg #[.int .i64 x, .int .i64 y, .string s], .int .i64 left] w fun e w' => e = .returned (.int .i64 (if left - (s.size : Int) < 0 then -1 else left - (s.size : Int))) ∧ Below w.heap.size w w' := by
  unfold maxLen at hs
  by_cases h : left - (s.size : Int) < 0
  · rw [if_pos h]
    go_enter Try.func9, Try.ntmps9
    go_wp2
    go_ret
    exact ⟨rfl, by (repeat' (first | exact Below.refl _ _ | assumption | refine Below.drew ?_ | refine below_drewN ?_ _ | refine Below.alloc ?_ ?_ _ | refine Below.setCell ?_ ?_ _ | go_size))⟩
  · rw [if_neg h]
    go_enter Try.func9, Try.ntmps9
    go_wp2
    go_ret
    exact ⟨rfl, by (repeat' (first | exact Below.refl _ _ | assumption | refine Below.drew ?_ | refine below_drewN ?_ _ | refine Below.alloc ?_ ?_ _ | refine Below.setCell ?_ ?_ _ | go_size))⟩
set_option maxRecDepth 100000 in
set_option maxHeartbeats 400000 in
theorem toBorder_g (x y : Int) (s : ByteArray) (w : World) : Calls Try.prog 11 #[.agg #[.int .i64 x, .int .i64 y, .string s]] w fun e w' => e = .returned (.agg #[.int .i64 x, .int .i64 y, .string s]) ∧ Below w.heap.size w w' := by
  have hc := fun w => toSpot2_any x y w
  have B1 := Blk.new w #[.int .i64 x, .int .i64 y, .string s] 25
  have B2 := Blk.new (w.alloc (.cells #[.int .i64 x, .int .i64 y, .string s] 25)) #[.int .i64 0, .int .i64 0, .string ByteArray.empty] 30
  have B3 := Blk.new ((w.alloc (.cells #[.int .i64 x, .int .i64 y, .string s] 25)).alloc (.cells #[.int .i64 0, .int .i64 0, .string ByteArray.empty] 30)) #[.int .i64 0, .int .i64 0, .string ByteArray.empty] 30
  replace B1 := (B1.alloc (.cells #[.int .i64 0, .int .i64 0, .string ByteArray.empty] 30)).alloc (.cells #[.int .i64 0, .int .i64 0, .string ByteArray.empty] 30)
  replace B2 := B2.alloc (.cells #[.int .i64 0, .int .i64 0, .string ByteArray.empty] 30)
  have S := (((Since.refl w).alloc (.cells #[.int .i64 x, .int .i64 y, .string s] 25)).alloc (.cells #[.int .i64 0, .int .i64 0, .string ByteArray.empty] 30)).alloc (.cells #[.int .i64 0, .int .i64 0, .string ByteArray.empty] 30)
  simp only [World.size_alloc] at B2 B3
  have Hc := Lib.hid hc; clear hc
  go_enter Try.func11, Try.ntmps11
  go_wp2_with fail
  refine (Hc.out _).mono ?_
  rintro e w1 ⟨rfl, hb⟩
  replace B1 := B1.bl hb
  replace B2 := B2.bl hb
  replace B3 := B3.bl hb
  replace S := S.bl hb
  have a2 := B1.cell 2 rfl
  have s0 := B3.cell 0 rfl
  have s1 := B3.cell 1 rfl
  have s2 := B3.cell 2 rfl
  have f0 := B3.frozen 0
  have f1 := B3.frozen 1
  have f2 := B3.frozen 2
  have t0 := B2.cell 0 rfl
  have t1 := B2.cell 1 rfl
  have t2 := B2.cell 2 rfl
  have g0 := B2.frozen 0
  have g1 := B2.frozen 1
  have g2 := B2.frozen 2
  go_wp2
  have e0 := ((((((B2.other (a := ⟨w.heap.size + 1 + 1, 0, none⟩) (by simp) (.int .i64 x)).other (a := ⟨w.heap.size + 1 + 1, 1, none⟩) (by simp) (.int .i64 y)).other (a := ⟨w.heap.size + 1 + 1, 2, none⟩) (by simp) (.string s)).set 0 (.int .i64 x)).set 1 (.int .i64 y)).set 2 (.string s))
  have d0 := e0.cell 0 rfl
  have d1 := e0.cell 1 rfl
  have d2 := e0.cell 2 rfl
  refine bodyPost_ret (v := .agg #[.int .i64 x, .int .i64 y, .string s]) (by simp [results, Try.results11, go_sem, d0, d1, d2]) rfl ⟨rfl, ?_⟩
  exact ((((((S.below.setCell (by first | (simp; done) | (simp; omega)) _).setCell (by first | (simp; done) | (simp; omega)) _).setCell (by first | (simp; done) | (simp; omega)) _).setCell (by first | (simp; done) | (simp; omega)) _).setCell (by first | (simp; done) | (simp; omega)) _).setCell (by first | (simp; done) | (simp; omega)) _)
set_option maxHeartbeats 400000 in
theorem sIsBorder_any (x y : Int) (s : ByteArray) (w : World) (hs : s.size ≤ maxLen) (hsm : small (x, y)) :
    Calls Try.prog 10 #[.agg #[.int .i64 x, .int .i64 y, .string s]] w fun e w' => e = .returned (.bool (bdB x y s)) ∧ Below w.heap.size w w' := by
  have B := Blk.new w #[.int .i64 x, .int .i64 y, .string s] 30
  have S := (Since.refl w).alloc (.cells #[.int .i64 x, .int .i64 y, .string s] 30)
  have c := l04Is_any w.heap.size x y s _ hs hsm B
  have C := Lib.hid c; clear c
  go_enter Try.func10, Try.ntmps10
  go_wp2_with fail
  refine C.out.mono ?_
  rintro e w1 ⟨rfl, hb⟩
  go_wp2
  go_ret
  exact ⟨rfl, (S.bl hb).below⟩
end Go.Proofs.Ytjplikkehhpomaa
