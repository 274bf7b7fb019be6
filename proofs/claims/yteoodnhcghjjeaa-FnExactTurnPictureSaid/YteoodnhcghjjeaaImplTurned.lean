/- Contracts of the program's turned and TurnPicture. -/
import Derived.Test.YteoodnhcghjjeaaImplTurn
set_option linter.unusedVariables false
namespace Go.Proofs.Yteoodnhcghjjeaa
open Go.RowKit

set_option maxRecDepth 100000 in
set_option maxHeartbeats 2000000 in
theorem turnedK0_any (m g W H : Nat) (f : Nat → Bool) (w : World) (I : Img w m g W H f) :
    Calls Try.prog 94 #[.pointer (some ⟨m, 0, none⟩), .int .i64 0] w fun e w' => ∃ m' g', e = .returned (.pointer (some ⟨m', 0, none⟩)) ∧ Img w' m' g' W H (turnG W H f 0) ∧ Below w.heap.size w w' := by
  have X := Box.new w (.pointer (some ⟨m, 0, none⟩)) 74
  have hy := bl_alloc w (.cells #[.pointer (some ⟨m, 0, none⟩)] 74)
  have S := (Since.refl w).bl hy
  replace I := I.bl hy
  clear hy
  have hw1 := I.w1
  have hw16 := I.w16
  have hh1 := I.h1
  have hh16 := I.h16
  have x0 := X.cell
  have i0 := I.c0
  have i1 := I.c1
  have hd := bl_drew' (w.alloc (.cells #[.pointer (some ⟨m, 0, none⟩)] 74))
  have X1 := X.bl hd
  have I1 := I.bl hd
  have S1 := S.bl hd
  have mk := made_any 111 #[.pointer (some ⟨w.heap.size, 0, none⟩)] W H (turnG W H f 0) (w.alloc (.cells #[.pointer (some ⟨m, 0, none⟩)] 74)).drew hw1 hw16 hh1 hh16 callFunc_turned1
    (fun x y w' hx hy hb => by
      have e := turnG_at (W := W) (H := H) (f := f) (kind := 0) (x := x) (y := y) hx
      rw [show y * W + x = y * turnW W H 0 + x from rfl, e]
      exact turned1_any m g W H f x y _ _ w' (X1.bl hb) (I1.bl hb) hx)
  have Mk := Lib.hid mk; clear mk
  clear I S X
  go_enter Try.func94, Try.ntmps94
  go_wp2_with fail
  go_region_held3 (fun w' => w'.cell? ⟨w.heap.size, 0, none⟩ = some (.pointer (some ⟨m, 0, none⟩)) ∧ w'.cell? ⟨m, 0, none⟩ = some (.int .i64 W) ∧ w'.cell? ⟨m, 1, none⟩ = some (.int .i64 H))
    (first | exact ⟨x0, i0, i1⟩ | exact ⟨(X1.bl hb6).cell, (I1.bl hb6).c0, (I1.bl hb6).c1⟩)
    ((first | (go_at_call 85; refine Mk.out.mono ?_; rintro e w2 ⟨m', g', rfl, J, -, -, hb6⟩)))
  replace S1 := S1.bl hb6
  go_wp2
  go_ret
  exact ⟨m', g', rfl, J, S1.below⟩
set_option maxRecDepth 100000 in
set_option maxHeartbeats 2000000 in
theorem turnedK1_any (m g W H : Nat) (f : Nat → Bool) (w : World) (I : Img w m g W H f) :
    Calls Try.prog 94 #[.pointer (some ⟨m, 0, none⟩), .int .i64 1] w fun e w' => ∃ m' g', e = .returned (.pointer (some ⟨m', 0, none⟩)) ∧ Img w' m' g' W H (turnG W H f 1) ∧ Below w.heap.size w w' := by
  have X := Box.new w (.pointer (some ⟨m, 0, none⟩)) 74
  have hy := bl_alloc w (.cells #[.pointer (some ⟨m, 0, none⟩)] 74)
  have S := (Since.refl w).bl hy
  replace I := I.bl hy
  clear hy
  have hw1 := I.w1
  have hw16 := I.w16
  have hh1 := I.h1
  have hh16 := I.h16
  have x0 := X.cell
  have i0 := I.c0
  have i1 := I.c1
  have hd := bl_drew' (w.alloc (.cells #[.pointer (some ⟨m, 0, none⟩)] 74))
  have X1 := X.bl hd
  have I1 := I.bl hd
  have S1 := S.bl hd
  have mk := made_any 112 #[.pointer (some ⟨w.heap.size, 0, none⟩)] W H (turnG W H f 1) (w.alloc (.cells #[.pointer (some ⟨m, 0, none⟩)] 74)).drew hw1 hw16 hh1 hh16 callFunc_turned2
    (fun x y w' hx hy hb => by
      have e := turnG_at (W := W) (H := H) (f := f) (kind := 1) (x := x) (y := y) hx
      rw [show y * W + x = y * turnW W H 1 + x from rfl, e]
      exact turned2_any m g W H f x y _ _ w' (X1.bl hb) (I1.bl hb) (by omega) (by omega))
  have Mk := Lib.hid mk; clear mk
  clear I S X
  go_enter Try.func94, Try.ntmps94
  go_wp2_with fail
  go_region_held3 (fun w' => w'.cell? ⟨w.heap.size, 0, none⟩ = some (.pointer (some ⟨m, 0, none⟩)) ∧ w'.cell? ⟨m, 0, none⟩ = some (.int .i64 W) ∧ w'.cell? ⟨m, 1, none⟩ = some (.int .i64 H))
    (first | exact ⟨x0, i0, i1⟩ | exact ⟨(X1.bl hb6).cell, (I1.bl hb6).c0, (I1.bl hb6).c1⟩)
    ((first | (go_at_call 85; refine Mk.out.mono ?_; rintro e w2 ⟨m', g', rfl, J, -, -, hb6⟩)))
  replace S1 := S1.bl hb6
  go_wp2
  go_ret
  exact ⟨m', g', rfl, J, S1.below⟩
set_option maxRecDepth 100000 in
set_option maxHeartbeats 2000000 in
theorem turnedK2_any (m g W H : Nat) (f : Nat → Bool) (w : World) (I : Img w m g W H f) :
    Calls Try.prog 94 #[.pointer (some ⟨m, 0, none⟩), .int .i64 2] w fun e w' => ∃ m' g', e = .returned (.pointer (some ⟨m', 0, none⟩)) ∧ Img w' m' g' H W (turnG W H f 2) ∧ Below w.heap.size w w' := by
  have X := Box.new w (.pointer (some ⟨m, 0, none⟩)) 74
  have hy := bl_alloc w (.cells #[.pointer (some ⟨m, 0, none⟩)] 74)
  have S := (Since.refl w).bl hy
  replace I := I.bl hy
  clear hy
  have hw1 := I.w1
  have hw16 := I.w16
  have hh1 := I.h1
  have hh16 := I.h16
  have x0 := X.cell
  have i0 := I.c0
  have i1 := I.c1
  have hd := bl_drew' (w.alloc (.cells #[.pointer (some ⟨m, 0, none⟩)] 74))
  have X1 := X.bl hd
  have I1 := I.bl hd
  have S1 := S.bl hd
  have mk := made_any 113 #[.pointer (some ⟨w.heap.size, 0, none⟩)] H W (turnG W H f 2) (w.alloc (.cells #[.pointer (some ⟨m, 0, none⟩)] 74)).drew hh1 hh16 hw1 hw16 callFunc_turned3
    (fun x y w' hx hy hb => by
      have e := turnG_at (W := W) (H := H) (f := f) (kind := 2) (x := x) (y := y) hx
      rw [show y * H + x = y * turnW W H 2 + x from rfl, e]
      exact turned3_any m g W H f x y _ _ w' (X1.bl hb) (I1.bl hb) )
  have Mk := Lib.hid mk; clear mk
  clear I S X
  go_enter Try.func94, Try.ntmps94
  go_wp2_with fail
  go_region_held3 (fun w' => w'.cell? ⟨w.heap.size, 0, none⟩ = some (.pointer (some ⟨m, 0, none⟩)) ∧ w'.cell? ⟨m, 0, none⟩ = some (.int .i64 W) ∧ w'.cell? ⟨m, 1, none⟩ = some (.int .i64 H))
    (first | exact ⟨x0, i0, i1⟩ | exact ⟨(X1.bl hb6).cell, (I1.bl hb6).c0, (I1.bl hb6).c1⟩)
    ((first | (go_at_call 85; refine Mk.out.mono ?_; rintro e w2 ⟨m', g', rfl, J, -, -, hb6⟩)))
  replace S1 := S1.bl hb6
  go_wp2
  go_ret
  exact ⟨m', g', rfl, J, S1.below⟩
set_option maxRecDepth 100000 in
set_option maxHeartbeats 2000000 in
theorem turnedK3_any (m g W H : Nat) (f : Nat → Bool) (w : World) (I : Img w m g W H f) :
    Calls Try.prog 94 #[.pointer (some ⟨m, 0, none⟩), .int .i64 3] w fun e w' => ∃ m' g', e = .returned (.pointer (some ⟨m', 0, none⟩)) ∧ Img w' m' g' H W (turnG W H f 3) ∧ Below w.heap.size w w' := by
  have X := Box.new w (.pointer (some ⟨m, 0, none⟩)) 74
  have hy := bl_alloc w (.cells #[.pointer (some ⟨m, 0, none⟩)] 74)
  have S := (Since.refl w).bl hy
  replace I := I.bl hy
  clear hy
  have hw1 := I.w1
  have hw16 := I.w16
  have hh1 := I.h1
  have hh16 := I.h16
  have x0 := X.cell
  have i0 := I.c0
  have i1 := I.c1
  have hd := bl_drew' (w.alloc (.cells #[.pointer (some ⟨m, 0, none⟩)] 74))
  have X1 := X.bl hd
  have I1 := I.bl hd
  have S1 := S.bl hd
  have mk := made_any 114 #[.pointer (some ⟨w.heap.size, 0, none⟩)] H W (turnG W H f 3) (w.alloc (.cells #[.pointer (some ⟨m, 0, none⟩)] 74)).drew hh1 hh16 hw1 hw16 callFunc_turned4
    (fun x y w' hx hy hb => by
      have e := turnG_at (W := W) (H := H) (f := f) (kind := 3) (x := x) (y := y) hx
      rw [show y * H + x = y * turnW W H 3 + x from rfl, e]
      exact turned4_any m g W H f x y _ _ w' (X1.bl hb) (I1.bl hb) (by omega) (by omega))
  have Mk := Lib.hid mk; clear mk
  clear I S X
  go_enter Try.func94, Try.ntmps94
  go_wp2_with fail
  go_region_held3 (fun w' => w'.cell? ⟨w.heap.size, 0, none⟩ = some (.pointer (some ⟨m, 0, none⟩)) ∧ w'.cell? ⟨m, 0, none⟩ = some (.int .i64 W) ∧ w'.cell? ⟨m, 1, none⟩ = some (.int .i64 H))
    (first | exact ⟨x0, i0, i1⟩ | exact ⟨(X1.bl hb6).cell, (I1.bl hb6).c0, (I1.bl hb6).c1⟩)
    ((first | (go_at_call 85; refine Mk.out.mono ?_; rintro e w2 ⟨m', g', rfl, J, -, -, hb6⟩)))
  replace S1 := S1.bl hb6
  go_wp2
  go_ret
  exact ⟨m', g', rfl, J, S1.below⟩
end Go.Proofs.Yteoodnhcghjjeaa
