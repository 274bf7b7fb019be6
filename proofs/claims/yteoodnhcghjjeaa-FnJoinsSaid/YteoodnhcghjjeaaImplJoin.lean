/- Contracts of the program's JoinPictures. -/
import Derived.Test.YteoodnhcghjjeaaImplInv
import Derived.Test.YteoodnhcghjjeaaSpecJoin
set_option linter.unusedVariables false
namespace Go.Proofs.Yteoodnhcghjjeaa
open Go.RowKit

set_option maxHeartbeats 2000000 in
theorem join_any (op : Nat) (a b : Bool) (w : World) (hop : op ≤ 3) : Calls Try.prog 87 #[.int .i64 op, .bool a, .bool b] w fun e w' => e = .returned (.bool (joinB op a b)) ∧ w = w' := by
  rcases (show op = 0 ∨ op = 1 ∨ op = 2 ∨ op = 3 by omega) with rfl | rfl | rfl | rfl
  all_goals
    cases a
    all_goals
      cases b
      all_goals
        go_enter Try.func87, Try.ntmps87
        go_wp2
        go_ret
        exact ⟨rfl, rfl⟩
/-- A pixel of an image, in every world that follows. -/
theorem get_b {m g W H : Nat} {f : Nat → Bool} {w : World} (I : Img w m g W H f) (x y : Int) : ∀ w', Below w.heap.size w w' → Calls Try.prog 61 #[.pointer (some ⟨m, 0, none⟩), .int .i64 x, .int .i64 y] w' fun e w'' => e = .returned (.bool (px W H f x y)) ∧ Below w'.heap.size w' w'' := fun w' hb =>
  (get_any m g W H f x y w' (I.bl hb)).mono fun e w'' ⟨he, k, hk⟩ => ⟨he, hk ▸ bl_drewN _ _⟩
theorem callFunc_joinPictures1 : ∀ args w, (callFunc 86 args).run Try.prog w = .ok (.enter 86 args) w := fun args w => by kernel_rfl
set_option maxRecDepth 100000 in
set_option maxHeartbeats 2000000 in
theorem joinPictures1_any (op m g n h W H : Nat) (f f' : Nat → Bool) (x y ob mb nb : Nat) (t1 t2 t3 : TypeId) (w : World) (hop : op ≤ 3) (O : Box w ob (.int .i64 op) t1) (X : Box w mb (.pointer (some ⟨m, 0, none⟩)) t2) (Y : Box w nb (.pointer (some ⟨n, 0, none⟩)) t3)
    (I : Img w m g W H f) (J : Img w n h W H f') (hx : x < W) (hy : y < H) :
    Calls Try.prog 86 #[.int .i64 x, .int .i64 y, .pointer (some ⟨ob, 0, none⟩), .pointer (some ⟨mb, 0, none⟩), .pointer (some ⟨nb, 0, none⟩)] w fun e w' => e = .returned (.bool (joinB op (f (y * W + x)) (f' (y * W + x)))) ∧ Below w.heap.size w w' := by
  have o0 := O.cell
  have x0 := X.cell
  have y0 := Y.cell
  have hd := bl_drew' w
  have c1 := get_b I (x : Int) (y : Int)
  have c2 := get_b J (x : Int) (y : Int)
  rw [px_at hx hy] at c1 c2
  have c3 := fun a b w => join_any op a b w hop
  generalize f (y * W + x) = v1 at *
  generalize f' (y * W + x) = v2 at *
  have C1 := Lib.hid c1; clear c1
  have C2 := Lib.hid c2; clear c2
  have C3 := Lib.hid c3; clear c3
  clear I J
  go_enter Try.func86, Try.ntmps86
  go_wp2_with fail
  go_region_held3 (fun w' => w'.cell? ⟨ob, 0, none⟩ = some (.int .i64 op) ∧ w'.cell? ⟨mb, 0, none⟩ = some (.pointer (some ⟨m, 0, none⟩)) ∧ w'.cell? ⟨nb, 0, none⟩ = some (.pointer (some ⟨n, 0, none⟩)))
    (first
      | exact ⟨o0, x0, y0⟩
      | exact ⟨((O.bl hd).bl hb6).cell, ((X.bl hd).bl hb6).cell, ((Y.bl hd).bl hb6).cell⟩
      | exact ⟨(((O.bl hd).bl hb6).bl hb7).cell, (((X.bl hd).bl hb6).bl hb7).cell, (((Y.bl hd).bl hb6).bl hb7).cell⟩)
    ((first
      | (go_at_call 61; with_reducible (refine (C1.out _ hd).mono ?_); rintro e w1 ⟨rfl, hb6⟩)
      | (go_at_call 61; with_reducible (refine (C2.out _ (bl_trans hd hb6)).mono ?_); rintro e w2 ⟨rfl, hb7⟩)
      | (go_at_call 87; with_reducible (refine (C3.out _ _ _).mono ?_); rintro e w3 ⟨rfl, rfl⟩)))
  go_wp2
  go_ret
  exact ⟨rfl, bl_trans (bl_trans hd hb6) hb7⟩
set_option maxRecDepth 100000 in
set_option maxHeartbeats 4000000 in
theorem joinPictures_any (op : Int) (p q : Option Addr) (c d : Nat) (ss ts : List ByteArray) (w : World) (hn : ss.length ≤ 1048576) (hs : ∀ s ∈ ss, s.size ≤ 1048576) (hn2 : ts.length ≤ 1048576) (hs2 : ∀ s ∈ ts, s.size ≤ 1048576)
    (hr : Rd w p ss.length (strAt ss)) (hq : Rd w q ts.length (strAt ts)) :
    Calls Try.prog 36 #[.int .i64 op, .agg #[.slice p ss.length c], .agg #[.slice q ts.length d]] w fun e w' =>
      ∃ v, e = .returned (.tuple #[.agg #[v], .bool (inB op 0 3 && likeB ss ts)]) ∧ OwnStrs w.heap.size w' v (joinL op ss ts) ∧ Below w.heap.size w w' := by
  obtain ⟨w0, ew⟩ : ∃ w0, w0 = w.alloc (.cells #[.int .i64 op] 2) := ⟨_, rfl⟩
  have O := Box.new w (.int .i64 op) 2
  have hy0 := bl_alloc w (.cells #[.int .i64 op] 2)
  have z0 : w0.heap.size = w.heap.size + 1 := by rw [ew, World.size_alloc]
  rw [← ew] at O hy0
  have hy1 := bl_alloc w0 (.cells #[.slice p ss.length c] 28)
  have hy2 := bl_alloc (w0.alloc (.cells #[.slice p ss.length c] 28)) (.cells #[.slice q ts.length d] 28)
  have hy3 := bl_alloc ((w0.alloc (.cells #[.slice p ss.length c] 28)).alloc (.cells #[.slice q ts.length d] 28)) (.cells #[.slice none 0 0] 28)
  have S := ((((Since.refl w).bl hy0).bl hy1).bl hy2).bl hy3
  have R := (((hr.bl hy0).bl hy1).bl hy2).bl hy3
  have Q := (((hq.bl hy0).bl hy1).bl hy2).bl hy3
  replace O := ((O.bl hy1).bl hy2).bl hy3
  have B := Box.new ((w0.alloc (.cells #[.slice p ss.length c] 28)).alloc (.cells #[.slice q ts.length d] 28)) (.slice none 0 0) 28
  subst ew
  simp only [World.size_alloc] at B
  clear hy0 hy1 hy2 hy3 z0
  go_enter Try.func36, Try.ntmps36
  go_wp2_with fail
  refine (twoImages_any p q c d ss ts _ hn hs hn2 hs2 R Q).mono ?_
  rintro e w1 ⟨hb, ⟨h, a, b, rfl⟩ | ⟨h, m, g, n, k, rfl, I, J, hm, hg, -, -⟩⟩
  · have hv : joinL op ss ts = [] := by simp [joinL, picIf, h]
    have hv2 : (inB op 0 3 && likeB ss ts) = false := by simp [h]
    replace S := S.bl hb
    replace B := B.bl hb
    have Hv := Lib.hid hv; clear hv
    have Hv2 := Lib.hid hv2; clear hv2
    clear hb h R Q
    replace B := (B.alloc (.cells #[.pointer a] 74)).alloc (.cells #[.pointer b] 74)
    replace S := (S.alloc (.cells #[.pointer a] 74)).alloc (.cells #[.pointer b] 74)
    have e0 := B.cell
    have e1 := B.frozen
    go_wp2
    refine bodyPost_ret (v := .tuple #[.agg #[.slice none 0 0], .bool false]) (by simp [results, Try.results36, go_sem, e0]) rfl ⟨_, by rw [Hv2.out], by rw [Hv.out]; exact OwnStrs.nil _ _, (S.set (by omega) _ _).below⟩
  · replace S := S.bl hb
    replace B := B.bl hb
    replace O := O.bl hb
    clear hb R Q
    simp only [World.size_alloc] at hm hg
    have hltB := B.lt
    have hya := bl_alloc w1 (.cells #[.pointer (some ⟨m, 0, none⟩)] 74)
    have hyb := bl_alloc (w1.alloc (.cells #[.pointer (some ⟨m, 0, none⟩)] 74)) (.cells #[.pointer (some ⟨n, 0, none⟩)] 74)
    have X := (Box.new w1 (.pointer (some ⟨m, 0, none⟩)) 74).bl hyb
    have Y := Box.new (w1.alloc (.cells #[.pointer (some ⟨m, 0, none⟩)] 74)) (.pointer (some ⟨n, 0, none⟩)) 74
    simp only [World.size_alloc] at Y
    replace S := S.bl hya
    replace B := B.bl hya
    replace O := O.bl hya
    replace I := I.bl hya
    replace J := J.bl hya
    replace S := S.bl hyb
    replace B := B.bl hyb
    replace O := O.bl hyb
    replace I := I.bl hyb
    replace J := J.bl hyb
    have o0 := O.cell
    have b0 := B.cell
    have b1 := B.frozen
    have hw1 := I.w1
    have hw16 := I.w16
    have hh1 := I.h1
    have hh16 := I.h16
    clear hya hyb
    cases hop : inB op 0 3
    · have hv : joinL op ss ts = [] := by simp [joinL, picIf, hop]
      have hv2 : (inB op 0 3 && likeB ss ts) = false := by simp [hop]
      have Hv := Lib.hid hv; clear hv
      have Hv2 := Lib.hid hv2; clear hv2
      go_wp2_with (go_at_call 84; refine (in_any _ _ _ _).mono ?_; rintro e w' ⟨rfl, rfl⟩)
      have e0 := B.cell
      refine bodyPost_ret (v := .tuple #[.agg #[.slice none 0 0], .bool false]) (by simp [results, Try.results36, go_sem, e0]) rfl ⟨_, by rw [Hv2.out], by rw [Hv.out]; exact OwnStrs.nil _ _, (S.set (by omega) _ _).below⟩
    · have hv : joinL op ss ts = render (wid ss) ss.length (fun i => joinB op.toNat (bits ss i) (bits ts i)) := by simp [joinL, picIf, hop, h]
      have hv2 : (inB op 0 3 && likeB ss ts) = true := by simp [hop, h]
      have dop := inB_true hop
      obtain ⟨o, rfl⟩ := Int.eq_ofNat_of_zero_le (show 0 ≤ op by omega)
      simp only [Int.toNat_natCast] at hv
      have x0 := X.cell
      have i0 := I.c0
      have i1 := I.c1
      have hd := bl_drew' ((w1.alloc (.cells #[.pointer (some ⟨m, 0, none⟩)] 74)).alloc (.cells #[.pointer (some ⟨n, 0, none⟩)] 74))
      have O1 := O.bl hd
      have X1 := X.bl hd
      have Y1 := Y.bl hd
      have B1 := B.bl hd
      have S1 := S.bl hd
      have I1 := I.bl hd
      have J1 := J.bl hd
      have mk := made_any 86 #[.pointer (some ⟨w.heap.size, 0, none⟩), .pointer (some ⟨w1.heap.size, 0, none⟩), .pointer (some ⟨w1.heap.size + 1, 0, none⟩)] (wid ss) ss.length (fun i => joinB o (bits ss i) (bits ts i))
        ((w1.alloc (.cells #[.pointer (some ⟨m, 0, none⟩)] 74)).alloc (.cells #[.pointer (some ⟨n, 0, none⟩)] 74)).drew hw1 hw16 hh1 hh16 callFunc_joinPictures1
        (fun x y w' hx hy hb => joinPictures1_any o m g n k _ _ _ _ x y _ _ _ _ _ _ w' (by omega) (O1.bl hb) (X1.bl hb) (Y1.bl hb) (I1.bl hb) (J1.bl hb) hx hy)
      have hlt := B1.lt
      have hsz := S1.size
      obtain ⟨L, eL⟩ : ∃ L, render (wid ss) ss.length (fun i => joinB o (bits ss i) (bits ts i)) = L := ⟨_, rfl⟩
      have tl := fun m' g' w' h => told_any m' g' (wid ss) ss.length (fun i => joinB o (bits ss i) (bits ts i)) w' h
      rw [eL] at hv tl
      have hop' := Lib.hid hop
      have Mk := Lib.hid mk; clear mk
      have Hv := Lib.hid hv; clear hv
      have Hv2 := Lib.hid hv2; clear hv2
      have Tl := Lib.hid tl; clear tl
      have EL := Lib.hid eL; clear eL
      clear J I S h J1 O1 Y1
      go_wp2_with (go_at_call 84; refine (in_any _ _ _ _).mono ?_; rintro e w' ⟨rfl, rfl⟩)
      go_region_held3 (fun w' => w'.cell? ⟨w1.heap.size, 0, none⟩ = some (.pointer (some ⟨m, 0, none⟩)) ∧ w'.cell? ⟨m, 0, none⟩ = some (.int .i64 (wid ss)) ∧ w'.cell? ⟨m, 1, none⟩ = some (.int .i64 ss.length))
        (first
          | exact ⟨x0, i0, i1⟩
          | exact ⟨(X1.bl hb6).cell, (I1.bl hb6).c0, (I1.bl hb6).c1⟩
          | exact ⟨((X1.bl hb6).bl hb7).cell, ((I1.bl hb6).bl hb7).c0, ((I1.bl hb6).bl hb7).c1⟩
          | exact ⟨(((X1.bl hb6).bl hb7).other (by simp; omega) _).cell, (((I1.bl hb6).bl hb7).other (by simp; omega) (by simp; omega) _).c0, (((I1.bl hb6).bl hb7).other (by simp; omega) (by simp; omega) _).c1⟩)
        ((first
          | (go_at_call 85; with_reducible (refine Mk.out.mono ?_); rintro e w3 ⟨m', g', rfl, K, -, -, hb6⟩)
          | (go_at_call 88; with_reducible (refine (Tl.out _ _ _ K).mono ?_); rintro e w4 ⟨v, rfl, OO, hb7⟩; obtain ⟨p', c', rfl⟩ := OO.form; have f0 := ((B1.bl hb6).bl hb7).frozen; have f1 := ((B1.bl hb6).bl hb7).cell)))
      replace S1 := (S1.bl hb6).bl hb7
      have hz6 := hb6.size
      have O2 := OO.set (a := ⟨w.heap.size + 1 + 1 + 1, 0, none⟩) (by simp; omega) (.slice p' L.length c')
      have S3 := S1.set (b := w.heap.size + 1 + 1 + 1) (by omega) 0 (.slice p' L.length c')
      have e0 := (((B1.bl hb6).bl hb7).set (.slice p' L.length c')).cell
      go_wp2
      refine bodyPost_ret (v := .tuple #[.agg #[.slice p' L.length c'], .bool true]) (by simp [results, Try.results36, go_sem, e0]) rfl ⟨_, by rw [Hv2.out], by rw [Hv.out]; exact O2.mono (by omega), S3.below⟩
end Go.Proofs.Yteoodnhcghjjeaa
