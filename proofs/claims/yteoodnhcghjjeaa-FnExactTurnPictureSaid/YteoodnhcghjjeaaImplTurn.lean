/- Contracts of the program's TurnPicture. -/
import Derived.Test.YteoodnhcghjjeaaImplJoin
import Derived.Test.YteoodnhcghjjeaaSpecTurnPic
set_option linter.unusedVariables false
namespace Go.Proofs.Yteoodnhcghjjeaa
open Go.RowKit

theorem wrap64 (X : Int) (h0 : -9223372036854775808 ≤ X) (h1 : X ≤ 9223372036854775807) : IntKind.i64.wrap X = X := by
  simp only [IntKind.wrap, IntKind.bits, IntKind.signed]
  simp
  omega
theorem callFunc_turned1 : ∀ args w, (callFunc 111 args).run Try.prog w = .ok (.enter 111 args) w := fun args w => by kernel_rfl
theorem callFunc_turned2 : ∀ args w, (callFunc 112 args).run Try.prog w = .ok (.enter 112 args) w := fun args w => by kernel_rfl
theorem callFunc_turned3 : ∀ args w, (callFunc 113 args).run Try.prog w = .ok (.enter 113 args) w := fun args w => by kernel_rfl
theorem callFunc_turned4 : ∀ args w, (callFunc 114 args).run Try.prog w = .ok (.enter 114 args) w := fun args w => by kernel_rfl
set_option maxRecDepth 100000 in
set_option maxHeartbeats 1000000 in
theorem turned1_any (m g W H : Nat) (f : Nat → Bool) (x y mb : Nat) (t : TypeId) (w : World) (M : Box w mb (.pointer (some ⟨m, 0, none⟩)) t) (I : Img w m g W H f) (hx : x < W) :
    Calls Try.prog 111 #[.int .i64 x, .int .i64 y, .pointer (some ⟨mb, 0, none⟩)] w fun e w' => e = .returned (.bool (px W H f ((W : Int) - 1 - (x : Int)) (y : Int))) ∧ Below w.heap.size w w' := by
  have m0 := M.cell
  have i0 := I.c0
  have hW := I.w16
  have hd := bl_drew' w
  have M1 := M.bl hd
  have I1 := I.bl hd
  have c1 := get_b I ((W : Int) - 1 - (x : Int)) (y : Int)
  have q1 := wrap64 ((W : Int) - 1) (by omega) (by omega)
  have q2 := wrap64 ((W : Int) - 1 - (x : Int)) (by omega) (by omega)
  have C1 := Lib.hid c1; clear c1
  have Q1 := Lib.hid q1; clear q1
  have Q2 := Lib.hid q2; clear q2
  clear I
  go_enter Try.func111, Try.ntmps111
  go_wp2_with fail
  go_region_held3 (fun w' => w'.cell? ⟨mb, 0, none⟩ = some (.pointer (some ⟨m, 0, none⟩)) ∧ w'.cell? ⟨m, 0, none⟩ = some (.int .i64 W))
    (first | exact ⟨m0, i0⟩ | exact ⟨(M1.bl hb6).cell, (I1.bl hb6).c0⟩)
    ((first | (go_at_call 61; rw [Q1.out, Q2.out]; with_reducible (refine (C1.out _ hd).mono ?_); rintro e w1 ⟨rfl, hb6⟩)))
  go_wp2
  go_ret
  exact ⟨rfl, bl_trans hd hb6⟩
set_option maxRecDepth 100000 in
set_option maxHeartbeats 1000000 in
theorem turned2_any (m g W H : Nat) (f : Nat → Bool) (x y mb : Nat) (t : TypeId) (w : World) (M : Box w mb (.pointer (some ⟨m, 0, none⟩)) t) (I : Img w m g W H f) (hx : x ≤ 16) (hy : y ≤ 16) :
    Calls Try.prog 112 #[.int .i64 x, .int .i64 y, .pointer (some ⟨mb, 0, none⟩)] w fun e w' => e = .returned (.bool (px W H f ((x : Int)) ((H : Int) - 1 - (y : Int)))) ∧ Below w.heap.size w w' := by
  have m0 := M.cell
  have i0 := I.c1
  have hW := I.h16
  have hd := bl_drew' w
  have M1 := M.bl hd
  have I1 := I.bl hd
  have c1 := get_b I ((x : Int)) ((H : Int) - 1 - (y : Int))
  have q1 := wrap64 ((H : Int) - 1) (by omega) (by omega)
  have q2 := wrap64 ((H : Int) - 1 - (y : Int)) (by omega) (by omega)
  have C1 := Lib.hid c1; clear c1
  have Q1 := Lib.hid q1; clear q1
  have Q2 := Lib.hid q2; clear q2
  clear I
  go_enter Try.func112, Try.ntmps112
  go_wp2_with fail
  go_region_held3 (fun w' => w'.cell? ⟨mb, 0, none⟩ = some (.pointer (some ⟨m, 0, none⟩)) ∧ w'.cell? ⟨m, 1, none⟩ = some (.int .i64 H))
    (first | exact ⟨m0, i0⟩ | exact ⟨(M1.bl hb6).cell, (I1.bl hb6).c1⟩)
    ((first | (go_at_call 61; rw [Q1.out, Q2.out]; with_reducible (refine (C1.out _ hd).mono ?_); rintro e w1 ⟨rfl, hb6⟩)))
  go_wp2
  go_ret
  exact ⟨rfl, bl_trans hd hb6⟩
set_option maxRecDepth 100000 in
set_option maxHeartbeats 1000000 in
theorem turned4_any (m g W H : Nat) (f : Nat → Bool) (x y mb : Nat) (t : TypeId) (w : World) (M : Box w mb (.pointer (some ⟨m, 0, none⟩)) t) (I : Img w m g W H f) (hx : x ≤ 16) (hy : y ≤ 16) :
    Calls Try.prog 114 #[.int .i64 x, .int .i64 y, .pointer (some ⟨mb, 0, none⟩)] w fun e w' => e = .returned (.bool (px W H f ((y : Int)) ((H : Int) - 1 - (x : Int)))) ∧ Below w.heap.size w w' := by
  have m0 := M.cell
  have i0 := I.c1
  have hW := I.h16
  have hd := bl_drew' w
  have M1 := M.bl hd
  have I1 := I.bl hd
  have c1 := get_b I ((y : Int)) ((H : Int) - 1 - (x : Int))
  have q1 := wrap64 ((H : Int) - 1) (by omega) (by omega)
  have q2 := wrap64 ((H : Int) - 1 - (x : Int)) (by omega) (by omega)
  have C1 := Lib.hid c1; clear c1
  have Q1 := Lib.hid q1; clear q1
  have Q2 := Lib.hid q2; clear q2
  clear I
  go_enter Try.func114, Try.ntmps114
  go_wp2_with fail
  go_region_held3 (fun w' => w'.cell? ⟨mb, 0, none⟩ = some (.pointer (some ⟨m, 0, none⟩)) ∧ w'.cell? ⟨m, 1, none⟩ = some (.int .i64 H))
    (first | exact ⟨m0, i0⟩ | exact ⟨(M1.bl hb6).cell, (I1.bl hb6).c1⟩)
    ((first | (go_at_call 61; rw [Q1.out, Q2.out]; with_reducible (refine (C1.out _ hd).mono ?_); rintro e w1 ⟨rfl, hb6⟩)))
  go_wp2
  go_ret
  exact ⟨rfl, bl_trans hd hb6⟩
set_option maxHeartbeats 1000000 in
theorem turned3_any (m g W H : Nat) (f : Nat → Bool) (x y mb : Nat) (t : TypeId) (w : World) (M : Box w mb (.pointer (some ⟨m, 0, none⟩)) t) (I : Img w m g W H f) :
    Calls Try.prog 113 #[.int .i64 x, .int .i64 y, .pointer (some ⟨mb, 0, none⟩)] w fun e w' => e = .returned (.bool (px W H f (y : Int) (x : Int))) ∧ Below w.heap.size w w' := by
  have m0 := M.cell
  have c1 := get_any m g W H f (y : Int) (x : Int) w I
  have C1 := Lib.hid c1; clear c1
  clear I
  go_enter Try.func113, Try.ntmps113
  go_wp2_with fail
  refine C1.out.mono ?_
  rintro e w1 ⟨rfl, k, rfl⟩
  go_wp2
  go_ret
  exact ⟨rfl, bl_drewN _ _⟩
end Go.Proofs.Yteoodnhcghjjeaa
