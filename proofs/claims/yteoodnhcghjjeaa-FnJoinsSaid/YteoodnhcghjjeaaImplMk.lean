/- Contracts of the program's functions that make pictures of pictures. -/
import Derived.Test.YteoodnhcghjjeaaImplIn
import Derived.Test.YteoodnhcghjjeaaSpecMk
set_option linter.unusedVariables false
namespace Go.Proofs.Yteoodnhcghjjeaa
open Go.RowKit

set_option maxRecDepth 100000 in
set_option maxHeartbeats 2000000 in
theorem withImage_any (kb : FuncId) (capb : Array Value) (p : Option Addr) (c : Nat) (ss : List ByteArray) (w : World) (hn : ss.length ≤ 1048576) (hs : ∀ s ∈ ss, s.size ≤ 1048576) (hr : Rd w p ss.length (strAt ss)) (W' H' : Nat) (f' : Nat → Bool) (okd : Bool)
    (hk : ∀ args w, (callFunc kb args).run Try.prog w = .ok (.enter kb args) w)
    (hcall : okPic ss = true → ∀ B m g w', Img w' m g (wid ss) ss.length (bits ss) → B ≤ m → B ≤ g → w.heap.size ≤ B → B ≤ w'.heap.size → Since w w' → Calls Try.prog kb (#[.pointer (some ⟨m, 0, none⟩)] ++ capb) w' fun e w'' => Below B w' w'' ∧
      ((okd = false ∧ e = .returned (.pointer none)) ∨ (okd = true ∧ ∃ m' g', e = .returned (.pointer (some ⟨m', 0, none⟩)) ∧ Img w'' m' g' W' H' f'))) :
    Calls Try.prog 76 #[.agg #[.slice p ss.length c], .func (.func kb) #[] capb] w fun e w' =>
      ∃ v, e = .returned (.tuple #[.agg #[v], .bool (okPic ss && okd)]) ∧ OwnStrs w.heap.size w' v (picIf (okPic ss && okd) (render W' H' f')) ∧ Below w.heap.size w w' := by
  have hy0 := bl_alloc w (.cells #[.slice p ss.length c] 28)
  have hy1 := bl_alloc (w.alloc (.cells #[.slice p ss.length c] 28)) (.cells #[.slice none 0 0] 28)
  have S := ((Since.refl w).bl hy0).bl hy1
  have B := Box.new (w.alloc (.cells #[.slice p ss.length c] 28)) (.slice none 0 0) 28
  have R := (hr.bl hy0).bl hy1
  simp only [World.size_alloc] at B
  have hcl := hcall
  have Hcl := Lib.hid hcl; clear hcl
  clear hcall
  go_enter Try.func76, Try.ntmps76
  go_wp2_with fail
  refine (imageOf_any p c ss _ hn hs R).mono ?_
  rintro e w1 ⟨hb, ⟨h, rfl⟩ | ⟨h, m, g, rfl, hI, hm, hg⟩⟩
  · replace S := S.bl hb
    replace B := B.bl hb
    clear hb R
    have e0 := B.cell
    have e1 := B.frozen
    have hv : (okPic ss && okd) = false := by simp [h]
    have H := Lib.hid h; clear h
    have Hv := Lib.hid hv; clear hv
    go_wp2
    refine bodyPost_ret (v := .tuple #[.agg #[.slice none 0 0], .bool false]) (by simp [results, Try.results76, go_sem, e0]) rfl ⟨_, by rw [Hv.out], by rw [Hv.out]; exact OwnStrs.nil _ _, (S.set (by omega) _ _).below⟩
  · replace S := S.bl hb
    replace B := B.bl hb
    have hz := hb.size
    simp only [World.size_alloc] at hm hg hz
    have hc := Hcl.out h (w.heap.size + 1 + 1) m g w1 hI hm hg (by omega) hz S
    have Hc := Lib.hid hc; clear hc
    clear hb R Hcl
    go_wp2_with fail
    refine Hc.out.mono ?_
    rintro e w2 ⟨hb, ⟨ho, rfl⟩ | ⟨ho, m', g', rfl, J⟩⟩
    · replace B := B.below hb (by omega)
      have S1 := S.below.trans (hb.mono (by omega))
      have e0 := B.cell
      have e1 := B.frozen
      have hv : (okPic ss && okd) = false := by simp [ho]
      have Ho := Lib.hid ho; clear ho
      have Hv := Lib.hid hv; clear hv
      clear hb
      go_wp2
      refine bodyPost_ret (v := .tuple #[.agg #[.slice none 0 0], .bool false]) (by simp [results, Try.results76, go_sem, e0]) rfl ⟨_, by rw [Hv.out], by rw [Hv.out]; exact OwnStrs.nil _ _, S1.setCell (by simp) _⟩
    · replace B := B.below hb (by omega)
      have S1 : Since w w2 := ⟨S.below.trans (hb.mono (by omega))⟩
      have hv : (okPic ss && okd) = true := by simp [h, ho]
      have hz2 := hb.size
      have Ho := Lib.hid ho; clear ho
      have Hv := Lib.hid hv; clear hv
      clear hb S h
      go_wp2_with fail
      refine (told_any m' g' W' H' f' w2 J).mono ?_
      rintro e w3 ⟨v, rfl, O, hb⟩
      replace B := B.bl hb
      replace S1 := S1.bl hb
      clear hb
      have f0 := B.frozen
      have f1 := B.cell
      obtain ⟨p', c', rfl⟩ := O.form
      have e0 := (B.set (.slice p' (render W' H' f').length c')).cell
      have O2 := O.set (a := ⟨w.heap.size + 1, 0, none⟩) (by simp; omega) (.slice p' (render W' H' f').length c')
      have S3 := S1.set (b := w.heap.size + 1) (by omega) 0 (.slice p' (render W' H' f').length c')
      go_wp2
      refine bodyPost_ret (v := .tuple #[.agg #[.slice p' (render W' H' f').length c'], .bool true]) (by simp [results, Try.results76, go_sem, e0]) rfl ⟨_, by rw [Hv.out], by rw [Hv.out]; exact O2.mono (by omega), S3.below⟩
theorem callFunc_setPixel1 : ∀ args w, (callFunc 77 args).run Try.prog w = .ok (.enter 77 args) w := fun args w => by kernel_rfl
set_option maxHeartbeats 2000000 in
theorem setPixel1_any (m g W H : Nat) (f : Nat → Bool) (x y : Int) (b : Bool) (bx bY bb : Nat) (t1 t2 t3 : TypeId) (B : Nat) (w : World) (I : Img w m g W H f) (X : Box w bx (.int .i64 x) t1) (Y : Box w bY (.int .i64 y) t2) (Z : Box w bb (.bool b) t3) (hm : B ≤ m) (hg : B ≤ g) :
    Calls Try.prog 77 #[.pointer (some ⟨m, 0, none⟩), .pointer (some ⟨bx, 0, none⟩), .pointer (some ⟨bY, 0, none⟩), .pointer (some ⟨bb, 0, none⟩)] w fun e w' => Below B w w' ∧
      ((hasB W H x y = false ∧ e = .returned (.pointer none)) ∨ (hasB W H x y = true ∧ ∃ m' g', e = .returned (.pointer (some ⟨m', 0, none⟩)) ∧ Img w' m' g' W H (fun i => if i = y.toNat * W + x.toNat then b else f i))) := by
  have x0 := X.cell
  have y0 := Y.cell
  have z0 := Z.cell
  have c0 := has_any m g W H f x y w I
  cases hh : hasB W H x y
  · rw [hh] at c0
    have hh' := hh
    have C0 := Lib.hid c0; clear c0
    have Hh := Lib.hid hh; clear hh
    clear hh'
    go_enter Try.func77, Try.ntmps77
    go_wp2_with fail
    refine C0.out.mono ?_
    rintro e w1 ⟨rfl, rfl⟩
    go_wp2
    go_ret
    exact ⟨Below.refl _ _, .inl ⟨trivial, rfl⟩⟩
  · rw [hh] at c0
    have hb := inB_true (n := x) (lo := 0) (hi := (W : Int) - 1) (by simp only [hasB, Bool.and_eq_true] at hh; exact hh.1)
    have hd := inB_true (n := y) (lo := 0) (hi := (H : Int) - 1) (by simp only [hasB, Bool.and_eq_true] at hh; exact hh.2)
    have c1 := set_any m g W H f x y b w I (by omega) (by omega) (by omega) (by omega)
    have C0 := Lib.hid c0; clear c0
    have C1 := Lib.hid c1; clear c1
    have Hh := Lib.hid hh; clear hh
    clear hb hd
    go_enter Try.func77, Try.ntmps77
    go_wp2_with fail
    refine C0.out.mono ?_
    rintro e w1 ⟨rfl, rfl⟩
    go_wp2_with fail
    refine C1.out.mono ?_
    rintro e w1 ⟨rfl, rfl⟩
    go_wp2
    go_ret
    exact ⟨((Below.refl _ _).setCell hg _).drew, .inr ⟨trivial, m, g, rfl, (I.set _ _).drewN 1⟩⟩
set_option maxRecDepth 100000 in
set_option maxHeartbeats 2000000 in
theorem setPixel_any (p : Option Addr) (c : Nat) (ss : List ByteArray) (x y : Int) (b : Bool) (w : World) (hn : ss.length ≤ 1048576) (hs : ∀ s ∈ ss, s.size ≤ 1048576) (hr : Rd w p ss.length (strAt ss)) :
    Calls Try.prog 31 #[.agg #[.slice p ss.length c], .int .i64 x, .int .i64 y, .bool b] w fun e w' =>
      ∃ v, e = .returned (.tuple #[.agg #[v], .bool (okPic ss && hasB (wid ss) ss.length x y)]) ∧ OwnStrs w.heap.size w' v (setL ss x y b) ∧ Below w.heap.size w w' := by
  have hy0 := bl_alloc w (.cells #[.slice p ss.length c] 28)
  have S := (Since.refl w).bl hy0
  have R := hr.bl hy0
  have hy1 := bl_alloc (w.alloc (.cells #[.slice p ss.length c] 28)) (.cells #[.int .i64 x] 2)
  have X := Box.new (w.alloc (.cells #[.slice p ss.length c] 28)) (.int .i64 x) 2
  replace S := S.bl hy1
  replace R := R.bl hy1
  have Y := Box.new ((w.alloc (.cells #[.slice p ss.length c] 28)).alloc (.cells #[.int .i64 x] 2)) (.int .i64 y) 2
  have hy2 := bl_alloc ((w.alloc (.cells #[.slice p ss.length c] 28)).alloc (.cells #[.int .i64 x] 2)) (.cells #[.int .i64 y] 2)
  replace S := S.bl hy2
  replace R := R.bl hy2
  replace X := X.bl hy2
  have Z := Box.new (((w.alloc (.cells #[.slice p ss.length c] 28)).alloc (.cells #[.int .i64 x] 2)).alloc (.cells #[.int .i64 y] 2)) (.bool b) 4
  have hy3 := bl_alloc (((w.alloc (.cells #[.slice p ss.length c] 28)).alloc (.cells #[.int .i64 x] 2)).alloc (.cells #[.int .i64 y] 2)) (.cells #[.bool b] 4)
  replace S := S.bl hy3
  replace R := R.bl hy3
  replace X := X.bl hy3
  replace Y := Y.bl hy3
  have B := Box.new ((((w.alloc (.cells #[.slice p ss.length c] 28)).alloc (.cells #[.int .i64 x] 2)).alloc (.cells #[.int .i64 y] 2)).alloc (.cells #[.bool b] 4)) (.slice none 0 0) 28
  have hy4 := bl_alloc ((((w.alloc (.cells #[.slice p ss.length c] 28)).alloc (.cells #[.int .i64 x] 2)).alloc (.cells #[.int .i64 y] 2)).alloc (.cells #[.bool b] 4)) (.cells #[.slice none 0 0] 28)
  replace S := S.bl hy4
  replace R := R.bl hy4
  replace X := X.bl hy4
  replace Y := Y.bl hy4
  replace Z := Z.bl hy4
  simp only [World.size_alloc] at X Y Z B
  clear hy0 hy1 hy2 hy3 hy4
  have hcf := callFunc_setPixel1
  go_enter Try.func31, Try.ntmps31
  go_wp2_with fail
  refine (withImage_any 77 _ p c ss _ hn hs R (wid ss) ss.length (setF ss x y b) (hasB (wid ss) ss.length x y) hcf ?_).mono ?_
  · intro hok B' m g w' I h1 h2 h3 h4 S'
    exact setPixel1_any m g _ _ _ x y b _ _ _ _ _ _ B' w' I (X.below S'.below X.lt) (Y.below S'.below Y.lt) (Z.below S'.below Z.lt) h1 h2
  · rintro e w1 ⟨v, rfl, O, hb⟩
    replace B := B.bl hb
    replace S := S.bl hb
    clear hb
    replace O : OwnStrs _ w1 v (setL ss x y b) := O
    obtain ⟨p', c', rfl⟩ := O.form
    have f0 := B.frozen
    have f1 := B.cell
    have f2 := B.lt
    have e0 := (B.set (.slice p' (setL ss x y b).length c')).cell
    have O2 := O.set (a := ⟨w.heap.size + 1 + 1 + 1 + 1, 0, none⟩) (by simp) (.slice p' (setL ss x y b).length c')
    have S3 := S.set (b := w.heap.size + 1 + 1 + 1 + 1) (by omega) 0 (.slice p' (setL ss x y b).length c')
    go_wp2
    refine bodyPost_ret (v := .tuple #[.agg #[.slice p' (setL ss x y b).length c'], .bool (okPic ss && hasB (wid ss) ss.length x y)]) (by simp [results, Try.results31, go_sem, e0]) rfl ⟨_, rfl, O2.mono (by simp; omega), S3.below⟩
end Go.Proofs.Yteoodnhcghjjeaa
