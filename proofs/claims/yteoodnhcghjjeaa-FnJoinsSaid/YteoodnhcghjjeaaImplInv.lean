/- Contracts of the program's InvertPicture and JoinPictures. -/
import Derived.Test.YteoodnhcghjjeaaImplMk
import Derived.Test.YteoodnhcghjjeaaSpecInv
set_option linter.unusedVariables false
namespace Go.Proofs.Yteoodnhcghjjeaa
open Go.RowKit


theorem Img.other {w : World} {m g W H : Nat} {f : Nat → Bool} (h : Img w m g W H f) {a : Addr} (h1 : a.block ≠ m) (h2 : a.block ≠ g) (v : Value) : Img (w.setCell a v) m g W H f := by
  have ho : ∀ j, (w.setCell a v).cell? ⟨m, j, none⟩ = w.cell? ⟨m, j, none⟩ := fun j =>
    World.cell?_setCell_other _ _ _ _ (fun e => h1 (by have := congrArg Addr.block e; simpa using this))
  exact ⟨h.w1, h.w16, h.h1, h.h16, (ho 0).trans h.c0, (ho 1).trans h.c1, (ho 2).trans h.c2, h.row.of_block (Below.heap_setCell _ _ _ _ (fun e => h2 e.symm)), h.ne⟩
theorem callFunc_inverted1 : ∀ args w, (callFunc 109 args).run Try.prog w = .ok (.enter 109 args) w := fun args w => by kernel_rfl
set_option maxHeartbeats 1000000 in
theorem inverted1_any (m g W H : Nat) (f : Nat → Bool) (x y mb : Nat) (t : TypeId) (w : World) (X : Box w mb (.pointer (some ⟨m, 0, none⟩)) t) (I : Img w m g W H f) (hx : x < W) (hy : y < H) :
    Calls Try.prog 109 #[.int .i64 x, .int .i64 y, .pointer (some ⟨mb, 0, none⟩)] w fun e w' => e = .returned (.bool (!f (y * W + x))) ∧ Below w.heap.size w w' := by
  have x0 := X.cell
  have c1 := get_any m g W H f (x : Int) (y : Int) w I
  rw [px_at hx hy] at c1
  have C1 := Lib.hid c1; clear c1
  clear I
  go_enter Try.func109, Try.ntmps109
  go_wp2_with fail
  refine C1.out.mono ?_
  rintro e w1 ⟨rfl, k, rfl⟩
  go_wp2
  go_ret
  exact ⟨rfl, bl_drewN _ _⟩
set_option maxRecDepth 100000 in
set_option maxHeartbeats 2000000 in
theorem inverted_any (m g W H : Nat) (f : Nat → Bool) (w : World) (I : Img w m g W H f) :
    Calls Try.prog 81 #[.pointer (some ⟨m, 0, none⟩)] w fun e w' => ∃ m' g', e = .returned (.pointer (some ⟨m', 0, none⟩)) ∧ Img w' m' g' W H (fun i => !f i) ∧ Below w.heap.size w w' := by
  have X := Box.new w (.pointer (some ⟨m, 0, none⟩)) 74
  have hy := bl_alloc w (.cells #[.pointer (some ⟨m, 0, none⟩)] 74)
  have S := (Since.refl w).bl hy
  replace I := I.bl hy
  clear hy
  have hw1 := I.w1
  have hw16 := I.w16
  have hh1 := I.h1
  have hh16 := I.h16
  go_enter Try.func81, Try.ntmps81
  have x0 := X.cell
  have i0 := I.c0
  have i1 := I.c1
  have hy := bl_drew' (w.alloc (.cells #[.pointer (some ⟨m, 0, none⟩)] 74))
  have X1 := X.bl hy
  have I1 := I.bl hy
  have S1 := S.bl hy
  have mk := made_any 109 #[.pointer (some ⟨w.heap.size, 0, none⟩)] W H (fun i => !f i) (w.alloc (.cells #[.pointer (some ⟨m, 0, none⟩)] 74)).drew hw1 hw16 hh1 hh16 callFunc_inverted1
    (fun x y w' hx hy hb => inverted1_any m g W H f x y _ _ w' (X1.bl hb) (I1.bl hb) hx hy)
  have Mk := Lib.hid mk; clear mk
  go_wp2_with fail
  go_region_held3 (fun w' => w'.cell? ⟨w.heap.size, 0, none⟩ = some (.pointer (some ⟨m, 0, none⟩)) ∧ w'.cell? ⟨m, 0, none⟩ = some (.int .i64 W) ∧ w'.cell? ⟨m, 1, none⟩ = some (.int .i64 H))
    (first | exact ⟨x0, i0, i1⟩ | exact ⟨(X1.bl hb6).cell, (I1.bl hb6).c0, (I1.bl hb6).c1⟩)
    ((first | (go_at_call 85; refine Mk.out.mono ?_; rintro e w2 ⟨m', g', rfl, J, -, -, hb6⟩)))
  replace S1 := S1.bl hb6
  go_wp2
  go_ret
  exact ⟨m', g', rfl, J, S1.below⟩
theorem callFunc_inverted : ∀ args w, (callFunc 81 args).run Try.prog w = .ok (.enter 81 args) w := fun args w => by kernel_rfl
set_option maxRecDepth 100000 in
set_option maxHeartbeats 2000000 in
theorem invertPicture_any (p : Option Addr) (c : Nat) (ss : List ByteArray) (w : World) (hn : ss.length ≤ 1048576) (hs : ∀ s ∈ ss, s.size ≤ 1048576) (hr : Rd w p ss.length (strAt ss)) :
    Calls Try.prog 34 #[.agg #[.slice p ss.length c]] w fun e w' => ∃ v, e = .returned (.tuple #[.agg #[v], .bool (okPic ss)]) ∧ OwnStrs w.heap.size w' v (invL ss) ∧ Below w.heap.size w w' := by
  have hy0 := bl_alloc w (.cells #[.slice p ss.length c] 28)
  have hy1 := bl_alloc (w.alloc (.cells #[.slice p ss.length c] 28)) (.cells #[.slice none 0 0] 28)
  have S := ((Since.refl w).bl hy0).bl hy1
  have R := (hr.bl hy0).bl hy1
  have B := Box.new (w.alloc (.cells #[.slice p ss.length c] 28)) (.slice none 0 0) 28
  simp only [World.size_alloc] at B
  have hcf := callFunc_inverted
  clear hy0 hy1
  go_enter Try.func34, Try.ntmps34
  go_wp2_with fail
  refine (withImage_any 81 #[] p c ss _ hn hs R (wid ss) ss.length (fun i => !bits ss i) true hcf ?_).mono ?_
  · intro hok B' m g w' I h1 h2 h3 h4 S'
    refine (inverted_any m g _ _ _ w' I).mono ?_
    rintro e w'' ⟨m', g', rfl, J, hb⟩
    exact ⟨hb.mono h4, .inr ⟨rfl, m', g', rfl, J⟩⟩
  · rintro e w1 ⟨v, rfl, O, hb⟩
    have hlt := B.lt
    replace B := B.bl hb
    replace S := S.bl hb
    clear hb
    rw [Bool.and_true] at O ⊢
    replace O : OwnStrs _ w1 v (invL ss) := O
    obtain ⟨p', c', rfl⟩ := O.form
    have f0 := B.frozen
    have f1 := B.cell
    have e0 := (B.set (.slice p' (invL ss).length c')).cell
    have O2 := O.set (a := ⟨w.heap.size + 1, 0, none⟩) hlt (.slice p' (invL ss).length c')
    have S3 := S.set (b := w.heap.size + 1) (by omega) 0 (.slice p' (invL ss).length c')
    go_wp2
    refine bodyPost_ret (v := .tuple #[.agg #[.slice p' (invL ss).length c'], .bool (okPic ss)]) (by simp [results, Try.results34, go_sem, e0]) rfl ⟨_, rfl, O2.mono (by simp; omega), S3.below⟩
end Go.Proofs.Yteoodnhcghjjeaa
