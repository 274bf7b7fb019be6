/- Contracts of the program's ShiftPicture. -/
import Derived.Test.YteoodnhcghjjeaaImplInv
import Derived.Test.YteoodnhcghjjeaaSpecShift
set_option linter.unusedVariables false
namespace Go.Proofs.Yteoodnhcghjjeaa
open Go.RowKit

theorem callFunc_shiftPicture1 : ∀ args w, (callFunc 90 args).run Try.prog w = .ok (.enter 90 args) w := fun args w => by kernel_rfl
theorem callFunc_shiftPicture11 : ∀ args w, (callFunc 91 args).run Try.prog w = .ok (.enter 91 args) w := fun args w => by kernel_rfl
set_option maxHeartbeats 1000000 in
theorem shiftPicture11_any (m g W H : Nat) (f : Nat → Bool) (dx dy : Int) (x y mb xb yb : Nat) (t t1 t2 : TypeId) (w : World) (M : Box w mb (.pointer (some ⟨m, 0, none⟩)) t) (X : Box w xb (.int .i64 dx) t1) (Y : Box w yb (.int .i64 dy) t2) (I : Img w m g W H f)
    (hdx : -16 ≤ dx ∧ dx ≤ 16) (hdy : -16 ≤ dy ∧ dy ≤ 16) (hx : x < W) (hy : y < H) :
    Calls Try.prog 91 #[.int .i64 x, .int .i64 y, .pointer (some ⟨mb, 0, none⟩), .pointer (some ⟨xb, 0, none⟩), .pointer (some ⟨yb, 0, none⟩)] w fun e w' => e = .returned (.bool (shiftF W H f dx dy (y * W + x))) ∧ Below w.heap.size w w' := by
  have m0 := M.cell
  have x0 := X.cell
  have y0 := Y.cell
  obtain ⟨x1, x2⟩ := hdx
  obtain ⟨y1, y2⟩ := hdy
  have hW := I.w16
  have hH := I.h16
  have c1 := get_any m g W H f ((x : Int) - dx) ((y : Int) - dy) w I
  have hF : shiftF W H f dx dy (y * W + x) = px W H f ((x : Int) - dx) ((y : Int) - dy) := by rw [shiftF, (at_mod hx).1, (at_mod hx).2]
  rw [hF]
  have C1 := Lib.hid c1; clear c1
  have HF := Lib.hid hF; clear hF
  clear I
  go_enter Try.func91, Try.ntmps91
  go_wp2_with fail
  refine C1.out.mono ?_
  rintro e w1 ⟨rfl, k, rfl⟩
  go_wp2
  go_ret
  exact ⟨rfl, bl_drewN _ _⟩
set_option maxRecDepth 100000 in
set_option maxHeartbeats 4000000 in
theorem shiftPicture1_any (m g W H : Nat) (f : Nat → Bool) (dx dy : Int) (xb yb : Nat) (t1 t2 : TypeId) (w : World) (X : Box w xb (.int .i64 dx) t1) (Y : Box w yb (.int .i64 dy) t2) (I : Img w m g W H f) :
    Calls Try.prog 90 #[.pointer (some ⟨m, 0, none⟩), .pointer (some ⟨xb, 0, none⟩), .pointer (some ⟨yb, 0, none⟩)] w fun e w' => Below w.heap.size w w' ∧
      ((inB dx (-16) 16 && inB dy (-16) 16) = false ∧ e = .returned (.pointer none) ∨ (inB dx (-16) 16 && inB dy (-16) 16) = true ∧ ∃ m' g', e = .returned (.pointer (some ⟨m', 0, none⟩)) ∧ Img w' m' g' W H (shiftF W H f dx dy)) := by
  have M := Box.new w (.pointer (some ⟨m, 0, none⟩)) 74
  have hy := bl_alloc w (.cells #[.pointer (some ⟨m, 0, none⟩)] 74)
  have S := (Since.refl w).bl hy
  replace X := X.bl hy
  replace Y := Y.bl hy
  replace I := I.bl hy
  clear hy
  have x0 := X.cell
  have y0 := Y.cell
  cases h1 : inB dx (-16) 16
  · go_enter Try.func90, Try.ntmps90
    go_wp2_with (go_at_call 84; refine (in_any _ _ _ _).mono ?_; rintro e w' ⟨rfl, rfl⟩)
    go_ret
    exact ⟨S.below, .inl ⟨rfl, rfl⟩⟩
  · cases h2 : inB dy (-16) 16
    · go_enter Try.func90, Try.ntmps90
      go_wp2_with (go_at_call 84; refine (in_any _ _ _ _).mono ?_; rintro e w' ⟨rfl, rfl⟩)
      go_ret
      exact ⟨S.below, .inl ⟨rfl, rfl⟩⟩
    · have m0 := M.cell
      have i0 := I.c0
      have i1 := I.c1
      have hw1 := I.w1
      have hw16 := I.w16
      have hh1 := I.h1
      have hh16 := I.h16
      have hd := bl_drew' (w.alloc (.cells #[.pointer (some ⟨m, 0, none⟩)] 74))
      have X1 := X.bl hd
      have Y1 := Y.bl hd
      have M1 := M.bl hd
      have S1 := S.bl hd
      have I1 := I.bl hd
      have mk := made_any 91 #[.pointer (some ⟨w.heap.size, 0, none⟩), .pointer (some ⟨xb, 0, none⟩), .pointer (some ⟨yb, 0, none⟩)] W H (shiftF W H f dx dy)
        (w.alloc (.cells #[.pointer (some ⟨m, 0, none⟩)] 74)).drew hw1 hw16 hh1 hh16 callFunc_shiftPicture11
        (fun x y w' hx hy hb => shiftPicture11_any m g W H f dx dy x y _ _ _ _ _ _ w' (M1.bl hb) (X1.bl hb) (Y1.bl hb) (I1.bl hb) (inB_true h1) (inB_true h2) hx hy)
      have Mk := Lib.hid mk; clear mk
      clear S I X1 Y1
      go_enter Try.func90, Try.ntmps90
      go_wp2_with (go_at_call 84; refine (in_any _ _ _ _).mono ?_; rintro e w' ⟨rfl, rfl⟩)
      go_region_held3 (fun w' => w'.cell? ⟨w.heap.size, 0, none⟩ = some (.pointer (some ⟨m, 0, none⟩)) ∧ w'.cell? ⟨m, 0, none⟩ = some (.int .i64 W) ∧ w'.cell? ⟨m, 1, none⟩ = some (.int .i64 H))
        (first | exact ⟨m0, i0, i1⟩ | exact ⟨(M1.bl hb6).cell, (I1.bl hb6).c0, (I1.bl hb6).c1⟩)
        ((first | (go_at_call 85; refine Mk.out.mono ?_; rintro e w2 ⟨m', g', rfl, J, -, -, hb6⟩)))
      replace S1 := S1.bl hb6
      go_wp2
      go_ret
      exact ⟨S1.below, .inr ⟨rfl, m', g', rfl, J⟩⟩
set_option maxRecDepth 100000 in
set_option maxHeartbeats 2000000 in
theorem shiftPicture_any (p : Option Addr) (c : Nat) (ss : List ByteArray) (dx dy : Int) (w : World) (hn : ss.length ≤ 1048576) (hs : ∀ s ∈ ss, s.size ≤ 1048576) (hr : Rd w p ss.length (strAt ss)) :
    Calls Try.prog 38 #[.agg #[.slice p ss.length c], .int .i64 dx, .int .i64 dy] w fun e w' => ∃ v, e = .returned (.tuple #[.agg #[v], .bool (shiftOk ss dx dy)]) ∧ OwnStrs w.heap.size w' v (shiftL ss dx dy) ∧ Below w.heap.size w w' := by
  have hy0 := bl_alloc w (.cells #[.slice p ss.length c] 28)
  have S := (Since.refl w).bl hy0
  have R := hr.bl hy0
  have hy1 := bl_alloc (w.alloc (.cells #[.slice p ss.length c] 28)) (.cells #[.int .i64 dx] 2)
  have X := Box.new (w.alloc (.cells #[.slice p ss.length c] 28)) (.int .i64 dx) 2
  replace S := S.bl hy1
  replace R := R.bl hy1
  have Y := Box.new ((w.alloc (.cells #[.slice p ss.length c] 28)).alloc (.cells #[.int .i64 dx] 2)) (.int .i64 dy) 2
  have hy2 := bl_alloc ((w.alloc (.cells #[.slice p ss.length c] 28)).alloc (.cells #[.int .i64 dx] 2)) (.cells #[.int .i64 dy] 2)
  replace S := S.bl hy2
  replace R := R.bl hy2
  replace X := X.bl hy2
  have B := Box.new (((w.alloc (.cells #[.slice p ss.length c] 28)).alloc (.cells #[.int .i64 dx] 2)).alloc (.cells #[.int .i64 dy] 2)) (.slice none 0 0) 28
  have hy3 := bl_alloc (((w.alloc (.cells #[.slice p ss.length c] 28)).alloc (.cells #[.int .i64 dx] 2)).alloc (.cells #[.int .i64 dy] 2)) (.cells #[.slice none 0 0] 28)
  replace S := S.bl hy3
  replace R := R.bl hy3
  replace X := X.bl hy3
  replace Y := Y.bl hy3
  simp only [World.size_alloc] at X Y B
  clear hy0 hy1 hy2 hy3
  have hcf := callFunc_shiftPicture1
  go_enter Try.func38, Try.ntmps38
  go_wp2_with fail
  refine (withImage_any 90 _ p c ss _ hn hs R (wid ss) ss.length (shiftF (wid ss) ss.length (bits ss) dx dy) (inB dx (-16) 16 && inB dy (-16) 16) hcf ?_).mono ?_
  · intro hok B' m g w' I h1 h2 h3 h4 S'
    exact (shiftPicture1_any m g _ _ _ dx dy _ _ _ _ w' (X.below S'.below X.lt) (Y.below S'.below Y.lt) I).mono fun e w'' h => ⟨h.1.mono h4, h.2⟩
  · rintro e w1 ⟨v, rfl, O, hb⟩
    have hlt := B.lt
    replace B := B.bl hb
    replace S := S.bl hb
    clear hb
    replace O : OwnStrs _ w1 v (shiftL ss dx dy) := O
    obtain ⟨p', c', rfl⟩ := O.form
    have f0 := B.frozen
    have f1 := B.cell
    have e0 := (B.set (.slice p' (shiftL ss dx dy).length c')).cell
    have O2 := O.set (a := ⟨w.heap.size + 1 + 1 + 1, 0, none⟩) hlt (.slice p' (shiftL ss dx dy).length c')
    have S3 := S.set (b := w.heap.size + 1 + 1 + 1) (by omega) 0 (.slice p' (shiftL ss dx dy).length c')
    go_wp2
    refine bodyPost_ret (v := .tuple #[.agg #[.slice p' (shiftL ss dx dy).length c'], .bool (shiftOk ss dx dy)]) (by simp [results, Try.results38, go_sem, e0, shiftOk]) rfl ⟨_, rfl, O2.mono (by simp; omega), S3.below⟩
end Go.Proofs.Yteoodnhcghjjeaa
