/- Contracts of the program's CropPicture. -/
import Derived.Test.YteoodnhcghjjeaaImplInv
import Derived.Test.YteoodnhcghjjeaaCrop
set_option linter.unusedVariables false
set_option linter.unusedSimpArgs false
namespace Go.Proofs.Yteoodnhcghjjeaa
open Go.RowKit

def cropG (W H : Nat) (f : Nat → Bool) (x y : Int) (wn : Nat) (i : Nat) : Bool := px W H f (x + ((i % wn : Nat) : Int)) (y + ((i / wn : Nat) : Int))
def cropD (W H : Nat) (x y wd ht : Int) : Bool := hasB W H x y && (inB wd 1 ((W : Int) - x) && inB ht 1 ((H : Int) - y))
theorem cropD_eq {W H : Nat} (hW : W ≤ 16) (hH : H ≤ 16) (x y wd ht : Int) : cropD W H x y wd ht = (sizeOkB wd ht && (hasB W H x y && hasB W H (x + wd - 1) (y + ht - 1))) := by
  rw [Bool.eq_iff_iff]
  simp only [cropD, hasB, sizeOkB, inB, Bool.and_eq_true, decide_eq_true_eq]
  omega
theorem crop_same {ss : List ByteArray} {x y wd ht : Int} (h : cropOk ss x y wd ht = true) : render wd.toNat ht.toNat (cropG (wid ss) ss.length (bits ss) x y wd.toNat) = render wd.toNat ht.toNat (cropF ss x.toNat y.toNat wd.toNat) := by
  obtain ⟨xn, yn, wn, hn, rfl, rfl, rfl, rfl, h1, h2, h3, h4⟩ := crop_dims h
  simp only [Int.toNat_natCast]
  apply render_congr
  intro i hi
  have a : i % wn < wn := Nat.mod_lt _ (by omega)
  have b : i / wn < hn := Nat.div_lt_of_lt_mul hi
  rw [cropG, cropF, ← Int.natCast_add, ← Int.natCast_add, px, hasB_mk (by omega) (by omega), Bool.true_and, Int.toNat_natCast, Int.toNat_natCast, bits_at (by omega)]
theorem cropL_if (ss : List ByteArray) (x y wd ht : Int) : picIf (okPic ss && cropD (wid ss) ss.length x y wd ht) (render wd.toNat ht.toNat (cropG (wid ss) ss.length (bits ss) x y wd.toNat)) = cropL ss x y wd ht := by
  have e : (okPic ss && cropD (wid ss) ss.length x y wd ht) = cropOk ss x y wd ht := rfl
  rw [e, picIf, cropL]
  cases h : cropOk ss x y wd ht
  · rfl
  · rw [crop_same h]
theorem callFunc_crop1 : ∀ args w, (callFunc 97 args).run Try.prog w = .ok (.enter 97 args) w := fun args w => by kernel_rfl
theorem callFunc_crop11 : ∀ args w, (callFunc 99 args).run Try.prog w = .ok (.enter 99 args) w := fun args w => by kernel_rfl
set_option maxHeartbeats 1000000 in
theorem crop11_any (m g W H : Nat) (f : Nat → Bool) (fx fy : Int) (wn : Nat) (x y mb sb : Nat) (t t1 : TypeId) (w : World) (M : Box w mb (.pointer (some ⟨m, 0, none⟩)) t) (X : Blk w sb #[.int .i64 fx, .int .i64 fy] t1) (I : Img w m g W H f)
    (hfx : 0 ≤ fx ∧ fx ≤ 16) (hfy : 0 ≤ fy ∧ fy ≤ 16) (hw : wn ≤ 16) (hx : x < wn) (hy : y < 16) :
    Calls Try.prog 99 #[.int .i64 x, .int .i64 y, .pointer (some ⟨mb, 0, none⟩), .pointer (some ⟨sb, 0, none⟩)] w fun e w' => e = .returned (.bool (cropG W H f fx fy wn (y * wn + x))) ∧ Below w.heap.size w w' := by
  have m0 := M.cell
  have x0 := X.cell 0 rfl
  have y0 := X.cell 1 rfl
  obtain ⟨x1, x2⟩ := hfx
  obtain ⟨y1, y2⟩ := hfy
  have c1 := get_any m g W H f (fx + x) (fy + y) w I
  have hF : cropG W H f fx fy wn (y * wn + x) = px W H f (fx + (x : Int)) (fy + (y : Int)) := by rw [cropG, (at_mod hx).1, (at_mod hx).2]
  rw [hF]
  have C1 := Lib.hid c1; clear c1
  have HF := Lib.hid hF; clear hF
  clear I
  go_enter Try.func99, Try.ntmps99
  go_wp2_with fail
  refine C1.out.mono ?_
  rintro e w1 ⟨rfl, k, rfl⟩
  go_wp2
  go_ret
  exact ⟨rfl, bl_drewN _ _⟩
set_option maxRecDepth 100000 in
set_option maxHeartbeats 4000000 in
theorem crop1_any (m g W H : Nat) (f : Nat → Bool) (fx fy wd ht : Int) (xb yb sb : Nat) (t1 t2 t3 : TypeId) (w : World) (X : Box w xb (.int .i64 wd) t1) (Y : Box w yb (.int .i64 ht) t2) (Z : Blk w sb #[.int .i64 fx, .int .i64 fy] t3) (I : Img w m g W H f) :
    Calls Try.prog 97 #[.pointer (some ⟨m, 0, none⟩), .pointer (some ⟨xb, 0, none⟩), .pointer (some ⟨yb, 0, none⟩), .pointer (some ⟨sb, 0, none⟩)] w fun e w' => Below w.heap.size w w' ∧
      (cropD W H fx fy wd ht = false ∧ e = .returned (.pointer none) ∨ cropD W H fx fy wd ht = true ∧ ∃ m' g', e = .returned (.pointer (some ⟨m', 0, none⟩)) ∧ Img w' m' g' wd.toNat ht.toNat (cropG W H f fx fy wd.toNat)) := by
  have M := Box.new w (.pointer (some ⟨m, 0, none⟩)) 74
  have hy := bl_alloc w (.cells #[.pointer (some ⟨m, 0, none⟩)] 74)
  have S := (Since.refl w).bl hy
  replace X := X.bl hy
  replace Y := Y.bl hy
  replace Z := Z.bl hy
  replace I := I.bl hy
  clear hy
  have x0 := X.cell
  have y0 := Y.cell
  have z0 := Z.cell 0 rfl
  have z1 := Z.cell 1 rfl
  have m0 := M.cell
  have hW := I.w16
  have hH := I.h16
  have hD := cropD_eq hW hH fx fy wd ht
  have cs := sizeOk_any wd ht (w.alloc (.cells #[.pointer (some ⟨m, 0, none⟩)] 74))
  have ch := has_any m g W H f fx fy _ I
  have ch2 := has_any m g W H f (fx + wd - 1) (fy + ht - 1) _ I
  cases h1 : sizeOkB wd ht
  · have hd : cropD W H fx fy wd ht = false := by rw [hD, h1]; rfl
    rw [h1] at cs
    rw [hd]
    have Cs := Lib.hid cs; clear cs
    have Ch := Lib.hid ch; clear ch
    have Ch2 := Lib.hid ch2; clear ch2
    have HD := Lib.hid hD; clear hD
    have Hd := Lib.hid hd; clear hd
    have H1 := Lib.hid h1; clear h1
    go_enter Try.func97, Try.ntmps97
    go_wp2_with fail
    with_reducible (refine Cs.out.mono ?_)
    rintro e w1 ⟨rfl, rfl⟩
    go_wp2
    go_ret
    exact ⟨S.below, .inl ⟨trivial, rfl⟩⟩
  · rw [h1] at cs
    have hsz : (1 ≤ wd ∧ wd ≤ 16) ∧ (1 ≤ ht ∧ ht ≤ 16) := by
      simp only [sizeOkB, inB, Bool.and_eq_true, decide_eq_true_eq] at h1
      exact h1
    cases h2 : hasB W H fx fy
    · have hd : cropD W H fx fy wd ht = false := by rw [hD, h2]; simp
      rw [h2] at ch
      rw [hd]
      have Cs := Lib.hid cs; clear cs
      have Ch := Lib.hid ch; clear ch
      have Ch2 := Lib.hid ch2; clear ch2
      have HD := Lib.hid hD; clear hD
      have Hd := Lib.hid hd; clear hd
      have H1 := Lib.hid h1; clear h1
      have H2 := Lib.hid h2; clear h2
      go_enter Try.func97, Try.ntmps97
      go_wp2_with fail
      with_reducible (refine Cs.out.mono ?_)
      rintro e w1 ⟨rfl, rfl⟩
      go_wp2_with fail
      with_reducible (refine Ch.out.mono ?_)
      rintro e w1 ⟨rfl, rfl⟩
      go_wp2
      go_ret
      exact ⟨S.below, .inl ⟨trivial, rfl⟩⟩
    · rw [h2] at ch
      have hf : (0 ≤ fx ∧ fx ≤ 15) ∧ (0 ≤ fy ∧ fy ≤ 15) := by
        simp only [hasB, inB, Bool.and_eq_true, decide_eq_true_eq] at h2
        omega
      obtain ⟨⟨s1, s2⟩, s3, s4⟩ := hsz
      obtain ⟨⟨f1, f2⟩, f3, f4⟩ := hf
      cases h3 : hasB W H (fx + wd - 1) (fy + ht - 1)
      · have hd : cropD W H fx fy wd ht = false := by rw [hD, h3]; simp
        rw [h3] at ch2
        rw [hd]
        have Cs := Lib.hid cs; clear cs
        have Ch := Lib.hid ch; clear ch
        have Ch2 := Lib.hid ch2; clear ch2
        have HD := Lib.hid hD; clear hD
        have Hd := Lib.hid hd; clear hd
        have H1 := Lib.hid h1; clear h1
        have H2 := Lib.hid h2; clear h2
        have H3 := Lib.hid h3; clear h3
        go_enter Try.func97, Try.ntmps97
        go_wp2_with fail
        with_reducible (refine Cs.out.mono ?_)
        rintro e w1 ⟨rfl, rfl⟩
        go_wp2_with fail
        with_reducible (refine Ch.out.mono ?_)
        rintro e w1 ⟨rfl, rfl⟩
        go_wp2_with fail
        with_reducible (refine Ch2.out.mono ?_)
        rintro e w1 ⟨rfl, rfl⟩
        go_wp2
        go_ret
        exact ⟨S.below, .inl ⟨trivial, rfl⟩⟩
      · have hd : cropD W H fx fy wd ht = true := by rw [hD, h1, h2, h3]; rfl
        rw [h3] at ch2
        rw [hd]
        obtain ⟨wn, rfl⟩ : ∃ wn : Nat, wd = wn := ⟨wd.toNat, by omega⟩
        obtain ⟨hn, rfl⟩ : ∃ hn : Nat, ht = hn := ⟨ht.toNat, by omega⟩
        simp only [Int.toNat_natCast]
        have mk := made_any 99 #[.pointer (some ⟨w.heap.size, 0, none⟩), .pointer (some ⟨sb, 0, none⟩)] wn hn (cropG W H f fx fy wn)
          (w.alloc (.cells #[.pointer (some ⟨m, 0, none⟩)] 74)) (by omega) (by omega) (by omega) (by omega) callFunc_crop11
          (fun x y w' hx hy hb => crop11_any m g W H f fx fy wn x y _ _ _ _ w' (M.bl hb) (Z.bl hb) (I.bl hb) (by omega) (by omega) (by omega) hx (by omega))
        have hcf := callFunc_crop11
        have Cs := Lib.hid cs; clear cs
        have Ch := Lib.hid ch; clear ch
        have Ch2 := Lib.hid ch2; clear ch2
        have HD := Lib.hid hD; clear hD
        have Hd := Lib.hid hd; clear hd
        have H1 := Lib.hid h1; clear h1
        have H2 := Lib.hid h2; clear h2
        have H3 := Lib.hid h3; clear h3
        have Mk := Lib.hid mk; clear mk
        go_enter Try.func97, Try.ntmps97
        go_wp2_with fail
        with_reducible (refine Cs.out.mono ?_)
        rintro e w1 ⟨rfl, rfl⟩
        go_wp2_with fail
        with_reducible (refine Ch.out.mono ?_)
        rintro e w1 ⟨rfl, rfl⟩
        go_wp2_with fail
        with_reducible (refine Ch2.out.mono ?_)
        rintro e w1 ⟨rfl, rfl⟩
        go_wp2_with fail
        refine Mk.out.mono ?_
        rintro e w2 ⟨m', g', rfl, J, -, -, hb6⟩
        replace S := S.bl hb6
        go_wp2
        go_ret
        exact ⟨S.below, .inr ⟨trivial, m', g', rfl, J⟩⟩
set_option maxRecDepth 100000 in
set_option maxHeartbeats 2000000 in
theorem cropPicture_any (p : Option Addr) (c : Nat) (ss : List ByteArray) (x y wd ht : Int) (w : World) (hn : ss.length ≤ 1048576) (hs : ∀ s ∈ ss, s.size ≤ 1048576) (hr : Rd w p ss.length (strAt ss)) :
    Calls Try.prog 43 #[.agg #[.slice p ss.length c], .agg #[.int .i64 x, .int .i64 y], .int .i64 wd, .int .i64 ht] w fun e w' => ∃ v, e = .returned (.tuple #[.agg #[v], .bool (cropOk ss x y wd ht)]) ∧ OwnStrs w.heap.size w' v (cropL ss x y wd ht) ∧ Below w.heap.size w w' := by
  have hy0 := bl_alloc w (.cells #[.slice p ss.length c] 28)
  obtain ⟨w1, hw1⟩ : ∃ w1, w.alloc (.cells #[.slice p ss.length c] 28) = w1 := ⟨_, rfl⟩
  rw [hw1] at hy0
  have z1 : w1.heap.size = w.heap.size + 1 := by rw [← hw1]; simp
  have S := (Since.refl w).bl hy0
  have R := hr.bl hy0
  have hy1 := bl_alloc w1 (.cells #[.int .i64 x, .int .i64 y] 54)
  have Z := Blk.new w1 #[.int .i64 x, .int .i64 y] 54
  obtain ⟨w2, hw2⟩ : ∃ w2, w1.alloc (.cells #[.int .i64 x, .int .i64 y] 54) = w2 := ⟨_, rfl⟩
  rw [hw2] at hy1 Z
  have z2 : w2.heap.size = w.heap.size + 1 + 1 := by rw [← hw2]; simp [z1]
  replace S := S.bl hy1
  replace R := R.bl hy1
  have hy2 := bl_alloc w2 (.cells #[.int .i64 wd] 2)
  have X := Box.new w2 (.int .i64 wd) 2
  obtain ⟨w3, hw3⟩ : ∃ w3, w2.alloc (.cells #[.int .i64 wd] 2) = w3 := ⟨_, rfl⟩
  rw [hw3] at hy2 X
  have z3 : w3.heap.size = w.heap.size + 1 + 1 + 1 := by rw [← hw3]; simp [z2]
  replace S := S.bl hy2
  replace R := R.bl hy2
  replace Z := Z.bl hy2
  have hy3 := bl_alloc w3 (.cells #[.int .i64 ht] 2)
  have Y := Box.new w3 (.int .i64 ht) 2
  obtain ⟨w4, hw4⟩ : ∃ w4, w3.alloc (.cells #[.int .i64 ht] 2) = w4 := ⟨_, rfl⟩
  rw [hw4] at hy3 Y
  have z4 : w4.heap.size = w.heap.size + 1 + 1 + 1 + 1 := by rw [← hw4]; simp [z3]
  replace S := S.bl hy3
  replace R := R.bl hy3
  replace Z := Z.bl hy3
  replace X := X.bl hy3
  have hy4 := bl_alloc w4 (.cells #[.slice none 0 0] 28)
  have B := Box.new w4 (.slice none 0 0) 28
  replace S := S.bl hy4
  replace R := R.bl hy4
  replace Z := Z.bl hy4
  replace X := X.bl hy4
  replace Y := Y.bl hy4
  rw [z1] at Z
  rw [z2] at X
  rw [z3] at Y
  rw [z4] at B
  subst hw4 hw3 hw2 hw1
  clear hy0 hy1 hy2 hy3 hy4 z1 z2 z3 z4
  have hcf := callFunc_crop1
  go_enter Try.func43, Try.ntmps43
  go_wp2_with fail
  refine (withImage_any 97 _ p c ss _ hn hs R wd.toNat ht.toNat (cropG (wid ss) ss.length (bits ss) x y wd.toNat) (cropD (wid ss) ss.length x y wd ht) hcf ?_).mono ?_
  · intro hok B' m g w' I h1 h2 h3 h4 S'
    exact (crop1_any m g _ _ _ x y wd ht _ _ _ _ _ _ w' (X.below S'.below X.lt) (Y.below S'.below Y.lt) (Z.bl S'.below) I).mono fun e w'' h => ⟨h.1.mono h4, h.2⟩
  · rw [cropL_if]
    rintro e w1 ⟨v, rfl, O, hb⟩
    have hlt := B.lt
    replace B := B.bl hb
    replace S := S.bl hb
    clear hb
    obtain ⟨p', c', rfl⟩ := O.form
    have f0 := B.frozen
    have f1 := B.cell
    have e0 := (B.set (.slice p' (cropL ss x y wd ht).length c')).cell
    have O2 := O.set (a := ⟨w.heap.size + 1 + 1 + 1 + 1, 0, none⟩) hlt (.slice p' (cropL ss x y wd ht).length c')
    have S3 := S.set (b := w.heap.size + 1 + 1 + 1 + 1) (by omega) 0 (.slice p' (cropL ss x y wd ht).length c')
    go_wp2
    refine bodyPost_ret (v := .tuple #[.agg #[.slice p' (cropL ss x y wd ht).length c'], .bool (cropOk ss x y wd ht)]) (by simp [results, Try.results43, go_sem, e0, cropOk, cropD]) rfl ⟨_, rfl, O2.mono (by simp; omega), S3.below⟩
end Go.Proofs.Yteoodnhcghjjeaa
