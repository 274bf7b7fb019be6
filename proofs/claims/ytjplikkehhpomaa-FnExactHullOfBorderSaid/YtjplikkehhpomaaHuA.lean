/- Contracts of the small functions of HullOfBorder: the area of a triangle, the distance, the bend. -/
import Derived.Test.YtjplikkehhpomaaBdC
import Derived.Test.YtjplikkehhpomaaBdHull
set_option linter.unusedVariables false
set_option linter.unusedSimpArgs false
namespace Go.Proofs.Ytjplikkehhpomaa
open Go.RowKit

theorem mul16 {x y : Int} (hx : -16 ≤ x ∧ x ≤ 16) (hy : -16 ≤ y ∧ y ≤ 16) : -256 ≤ x * y ∧ x * y ≤ 256 := by
  have h1 : x.natAbs ≤ 16 := by omega
  have h2 : y.natAbs ≤ 16 := by omega
  have h3 := Nat.mul_le_mul h1 h2
  rw [← Int.natAbs_mul] at h3
  omega
/-- A corner of a picture's pixels. -/
def inC (p : Int × Int) : Prop := (0 ≤ p.1 ∧ p.1 ≤ 16) ∧ 0 ≤ p.2 ∧ p.2 ≤ 16
set_option maxHeartbeats 2000000 in
theorem l04Cross_any (ax ay bx bz cx cy : Int) (w : World) (ha : inC (ax, ay)) (hb : inC (bx, bz)) (hc : inC (cx, cy)) :
    Calls Try.prog 34 #[.agg #[.int .i64 ax, .int .i64 ay], .agg #[.int .i64 bx, .int .i64 bz], .agg #[.int .i64 cx, .int .i64 cy]] w fun e w' => e = .returned (.int .i64 (Hull.crs (ax, ay) (bx, bz) (cx, cy))) ∧ Below w.heap.size w w' := by
  obtain ⟨⟨a1, a2⟩, a3, a4⟩ := ha
  obtain ⟨⟨b1, b2⟩, b3, b4⟩ := hb
  obtain ⟨⟨c1, c2⟩, c3, c4⟩ := hc
  dsimp only at *
  have S := (((Since.refl w).alloc (.cells #[.int .i64 ax, .int .i64 ay] 28)).alloc (.cells #[.int .i64 bx, .int .i64 bz] 28)).alloc (.cells #[.int .i64 cx, .int .i64 cy] 28)
  have hw1 : IntKind.i64.wrap (bx - ax) = bx - ax := IntWalk.i64_in _ (by omega)
  have hw2 : IntKind.i64.wrap (cy - ay) = cy - ay := IntWalk.i64_in _ (by omega)
  have hw3 : IntKind.i64.wrap (bz - ay) = bz - ay := IntWalk.i64_in _ (by omega)
  have hw4 : IntKind.i64.wrap (cx - ax) = cx - ax := IntWalk.i64_in _ (by omega)
  have m1 := mul16 (x := bx - ax) (y := cy - ay) ⟨by omega, by omega⟩ ⟨by omega, by omega⟩
  have m2 := mul16 (x := bz - ay) (y := cx - ax) ⟨by omega, by omega⟩ ⟨by omega, by omega⟩
  have hq : Hull.crs (ax, ay) (bx, bz) (cx, cy) = (bx - ax) * (cy - ay) - (bz - ay) * (cx - ax) := rfl
  obtain ⟨p1, e1⟩ : ∃ p, (bx - ax) * (cy - ay) = p := ⟨_, rfl⟩
  obtain ⟨p2, e2⟩ : ∃ p, (bz - ay) * (cx - ax) = p := ⟨_, rfl⟩
  rw [e1] at m1 hq
  rw [e2] at m2 hq
  have hw5 : IntKind.i64.wrap p1 = p1 := IntWalk.i64_in _ (by omega)
  have hw6 : IntKind.i64.wrap p2 = p2 := IntWalk.i64_in _ (by omega)
  have hw7 : IntKind.i64.wrap (p1 - p2) = p1 - p2 := IntWalk.i64_in _ (by omega)
  have Hq := Lib.hid hq; clear hq
  clear a1 a2 a3 a4 b1 b2 b3 b4 c1 c2 c3 c4 m1 m2
  go_enter Try.func34, Try.ntmps34
  go_wp2
  go_ret
  exact ⟨by rw [Hq.out]; rfl, S.below⟩
set_option maxHeartbeats 2000000 in
theorem l04Far_any (ax ay bx bz : Int) (w : World) (ha : inC (ax, ay)) (hb : inC (bx, bz)) :
    Calls Try.prog 35 #[.agg #[.int .i64 ax, .int .i64 ay], .agg #[.int .i64 bx, .int .i64 bz]] w fun e w' => e = .returned (.int .i64 (Hull.farS (ax, ay) (bx, bz))) ∧ Below w.heap.size w w' := by
  obtain ⟨⟨a1, a2⟩, a3, a4⟩ := ha
  obtain ⟨⟨b1, b2⟩, b3, b4⟩ := hb
  dsimp only at *
  have S := ((Since.refl w).alloc (.cells #[.int .i64 ax, .int .i64 ay] 28)).alloc (.cells #[.int .i64 bx, .int .i64 bz] 28)
  have hw1 : IntKind.i64.wrap (ax - bx) = ax - bx := IntWalk.i64_in _ (by omega)
  have hw2 : IntKind.i64.wrap (ay - bz) = ay - bz := IntWalk.i64_in _ (by omega)
  have m1 := mul16 (x := ax - bx) (y := ax - bx) ⟨by omega, by omega⟩ ⟨by omega, by omega⟩
  have m2 := mul16 (x := ay - bz) (y := ay - bz) ⟨by omega, by omega⟩ ⟨by omega, by omega⟩
  have hq : Hull.farS (ax, ay) (bx, bz) = (ax - bx) * (ax - bx) + (ay - bz) * (ay - bz) := rfl
  obtain ⟨p1, e1⟩ : ∃ p, (ax - bx) * (ax - bx) = p := ⟨_, rfl⟩
  obtain ⟨p2, e2⟩ : ∃ p, (ay - bz) * (ay - bz) = p := ⟨_, rfl⟩
  rw [e1] at m1 hq
  rw [e2] at m2 hq
  have hw5 : IntKind.i64.wrap p1 = p1 := IntWalk.i64_in _ (by omega)
  have hw6 : IntKind.i64.wrap p2 = p2 := IntWalk.i64_in _ (by omega)
  have hw7 : IntKind.i64.wrap (p1 + p2) = p1 + p2 := IntWalk.i64_in _ (by omega)
  have Hq := Lib.hid hq; clear hq
  clear a1 a2 a3 a4 b1 b2 b3 b4 m1 m2
  go_enter Try.func35, Try.ntmps35
  go_wp2
  go_ret
  exact ⟨by rw [Hq.out]; rfl, S.below⟩
set_option maxHeartbeats 2000000 in
theorem bend_any (ax ay bx bz cx cy : Int) (w : World) (ha : inC (ax, ay)) (hb : inC (bx, bz)) (hc : inC (cx, cy)) :
    Calls Try.prog 64 #[.agg #[.int .i64 ax, .int .i64 ay], .agg #[.int .i64 bx, .int .i64 bz], .agg #[.int .i64 cx, .int .i64 cy]] w fun e w' => e = .returned (.int .i64 (Hull.bendZ (ax, ay) (bx, bz) (cx, cy))) ∧ Below w.heap.size w w' := by
  obtain ⟨⟨a1, a2⟩, a3, a4⟩ := ha
  obtain ⟨⟨b1, b2⟩, b3, b4⟩ := hb
  obtain ⟨⟨c1, c2⟩, c3, c4⟩ := hc
  dsimp only at *
  have S := (((Since.refl w).alloc (.cells #[.int .i64 ax, .int .i64 ay] 28)).alloc (.cells #[.int .i64 bx, .int .i64 bz] 28)).alloc (.cells #[.int .i64 cx, .int .i64 cy] 28)
  have hw1 : IntKind.i64.wrap (bx - ax) = bx - ax := IntWalk.i64_in _ (by omega)
  have hw2 : IntKind.i64.wrap (cy - bz) = cy - bz := IntWalk.i64_in _ (by omega)
  have hw3 : IntKind.i64.wrap (bz - ay) = bz - ay := IntWalk.i64_in _ (by omega)
  have hw4 : IntKind.i64.wrap (cx - bx) = cx - bx := IntWalk.i64_in _ (by omega)
  have m1 := mul16 (x := bx - ax) (y := cy - bz) ⟨by omega, by omega⟩ ⟨by omega, by omega⟩
  have m2 := mul16 (x := bz - ay) (y := cx - bx) ⟨by omega, by omega⟩ ⟨by omega, by omega⟩
  have hq : Hull.bendZ (ax, ay) (bx, bz) (cx, cy) = (bx - ax) * (cy - bz) - (bz - ay) * (cx - bx) := rfl
  obtain ⟨p1, e1⟩ : ∃ p, (bx - ax) * (cy - bz) = p := ⟨_, rfl⟩
  obtain ⟨p2, e2⟩ : ∃ p, (bz - ay) * (cx - bx) = p := ⟨_, rfl⟩
  rw [e1] at m1 hq
  rw [e2] at m2 hq
  have hw5 : IntKind.i64.wrap p1 = p1 := IntWalk.i64_in _ (by omega)
  have hw6 : IntKind.i64.wrap p2 = p2 := IntWalk.i64_in _ (by omega)
  have hw7 : IntKind.i64.wrap (p1 - p2) = p1 - p2 := IntWalk.i64_in _ (by omega)
  have Hq := Lib.hid hq; clear hq
  clear a1 a2 a3 a4 b1 b2 b3 b4 c1 c2 c3 c4 m1 m2
  go_enter Try.func64, Try.ntmps64
  go_wp2
  go_ret
  exact ⟨by rw [Hq.out]; rfl, S.below⟩
end Go.Proofs.Ytjplikkehhpomaa
