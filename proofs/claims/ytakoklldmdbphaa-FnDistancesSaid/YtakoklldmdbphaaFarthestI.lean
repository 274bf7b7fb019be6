/- Contract of the program's FarthestOf. -/
import Derived.Test.YtakoklldmdbphaaFarthest
set_option linter.unusedVariables false
namespace Go.Proofs.Ytakoklldmdbphaa
open Go.RowKit

theorem Box.two {w : World} {b : Nat} {v : Value} {t : TypeId} (h : Box w b v t) (u : Value) : w.cell? ⟨b, 0, none⟩ = some v ∧ w.frozen? ⟨b, 0, none⟩ = false ∧ (w.setCell ⟨b, 0, none⟩ u).cell? ⟨b, 0, none⟩ = some u := ⟨h.cell, h.frozen, (h.set u).cell⟩
theorem callFunc_farthest1 : ∀ args w, (callFunc 107 args).run Try.prog w = .ok (.enter 107 args) w := fun args w => by kernel_rfl
/-- What stands while the program seeks the farthest pixel: n of them are looked at. -/
structure FarI (w0 : World) (m g : Nat) (ss : List ByteArray) (k : Int) (kb lb bb mb rb : Nat) (q : Option Addr) (c : Nat) (n : Nat) (w : World) : Prop where
  img : Img w m g (wid ss) ss.length (bits ss)
  kx : Box w kb (.int .i64 k) 2
  lx : Box w lb (.slice q (spotsL ss).length c) 51
  mx : Box w mb (.int .i64 (farN (wid ss) (distD ss k) n).2) 2
  bx : Blk w bb #[.int .i64 (farN (wid ss) (distD ss k) n).1.1, .int .i64 (farN (wid ss) (distD ss k) n).1.2] 27
  rx : Blk w rb #[.int .i64 0, .int .i64 0] 27
  rd : Rd w q ((spotsL ss).length * 2) (spotAt (spotsL ss))
  since : Since w0 w
/-- Where these lie. -/
structure FarAt (w0 : World) (m g kb lb bb mb rb : Nat) (q : Option Addr) : Prop where
  m1 : m < bb
  g1 : g < bb
  k1 : kb < bb
  l1 : lb < bb
  r1 : rb < bb
  b1 : bb < mb
  w1 : w0.heap.size ≤ bb
  q1 : ∀ b o, q = some ⟨b, o, none⟩ → b < bb
set_option maxRecDepth 100000 in
set_option maxHeartbeats 4000000 in
theorem farthest1_any (w0 : World) (m g : Nat) (ss : List ByteArray) (k : Int) (kb lb bb mb rb : Nat) (q : Option Addr) (c x y : Nat) (w : World) (A : FarAt w0 m g kb lb bb mb rb q) (hsm : someB ss k = true) (hx : x < wid ss) (hy : y < ss.length)
    (J : FarI w0 m g ss k kb lb bb mb rb q c (y * wid ss + x) w) :
    Calls Try.prog 107 #[.int .i64 x, .int .i64 y, .pointer (some ⟨kb, 0, none⟩), .pointer (some ⟨lb, 0, none⟩), .pointer (some ⟨mb, 0, none⟩), .pointer (some ⟨bb, 0, none⟩)] w fun e w' =>
      e = .returned (.tuple #[]) ∧ FarI w0 m g ss k kb lb bb mb rb q c (y * wid ss + x + 1) w' := by
  obtain ⟨ho, hk, h0⟩ := someB_true hsm
  have hd := okPic_dims ho
  obtain ⟨hd1, hd2, hd3, hd4⟩ := hd
  obtain ⟨am, ag, ak, al, ar, ab, aw, aq⟩ := A
  have hdd : distD ss k (y * wid ss + x) = farG k x y (bestS (farG k x y) (spotsL ss)) := by rw [distD_at hx, bestD, if_neg (by omega)]
  have hN : farN (wid ss) (distD ss k) (y * wid ss + x + 1) = if (farN (wid ss) (distD ss k) (y * wid ss + x)).2 < distD ss k (y * wid ss + x) then (((x : Int), (y : Int)), distD ss k (y * wid ss + x)) else farN (wid ss) (distD ss k) (y * wid ss + x) := by
    rw [farN, (at_mod hx).1, (at_mod hx).2]
  rw [hdd] at hN
  have cl := fun w' h => least_any k x y q c (spotsL ss) w' (by omega) (by omega) (fun s hs => by have := spotsL_mem hs; omega) h0 (spotsL_len ss) h
  obtain ⟨JI, JK, JL, JM, JB, JR, JD, JS⟩ := J
  have k0 := JK.cell
  have l0 := JL.cell
  generalize farG k x y (bestS (farG k x y) (spotsL ss)) = D at *
  generalize leastN (farG k x y) (spotsL ss) (spotsL ss).length = NN at *
  have Cl := Lib.hid cl; clear cl
  have Ho := Lib.hid ho; clear ho
  have Hk := Lib.hid hk; clear hk
  have Hdd := Lib.hid hdd; clear hdd
  have Hsm := Lib.hid hsm; clear hsm
  go_enter Try.func107, Try.ntmps107
  go_wp2_with fail
  refine (Cl.out _ JD).mono ?_
  rintro e w1 ⟨rfl, hb⟩
  replace JI := JI.bl hb
  replace JK := JK.bl hb
  replace JL := JL.bl hb
  replace JM := JM.bl hb
  replace JB := JB.bl hb
  replace JR := JR.bl hb
  replace JD := JD.bl hb
  replace JS := JS.bl hb
  clear hb k0 l0
  obtain ⟨M, eM⟩ : ∃ M, farN (wid ss) (distD ss k) (y * wid ss + x) = M := ⟨_, rfl⟩
  rw [eM] at hN JM JB
  obtain ⟨⟨m1, m2⟩, m3⟩ := M
  dsimp only at hN JM JB
  have EM := Lib.hid eM; clear eM
  by_cases hlt : m3 < D
  · rw [if_pos hlt] at hN
    obtain ⟨e0, f0, e1, f1, -, -⟩ := JB.two (.int .i64 x) (.int .i64 y)
    have JB2 := JB.set2 (.int .i64 x) (.int .i64 y)
    have JM2 := (JM.other (a := ⟨bb, 0, none⟩) (by simp; omega) (.int .i64 x)).other (a := ⟨bb, 1, none⟩) (by simp; omega) (.int .i64 y)
    obtain ⟨e2, f2, -⟩ := JM2.two (.int .i64 D)
    have mm0 := JM.cell
    have Q : FarI w0 m g ss k kb lb bb mb rb q c (y * wid ss + x + 1) (((w1.setCell ⟨bb, 0, none⟩ (.int .i64 x)).setCell ⟨bb, 1, none⟩ (.int .i64 y)).setCell ⟨mb, 0, none⟩ (.int .i64 D)) :=
      ⟨((JI.other' (by simp; omega) (by simp; omega) _).other' (by simp; omega) (by simp; omega) _).other' (by simp; omega) (by simp; omega) _,
       ((JK.other (by simp; omega) _).other (by simp; omega) _).other (by simp; omega) _, ((JL.other (by simp; omega) _).other (by simp; omega) _).other (by simp; omega) _,
       by rw [hN]; exact JM2.set _, by rw [hN]; exact JB2.other (by simp; omega) _, ((JR.other (by simp; omega) _).other (by simp; omega) _).other (by simp; omega) _,
       ((JD.set (fun b o h => by have := aq b o h; simp; omega) _).set (fun b o h => by have := aq b o h; simp; omega) _).set (fun b o h => by have := aq b o h; simp; omega) _,
       (JS.set2 aw _ _).setc (by simp; omega) _⟩
    have HN := Lib.hid hN; clear hN
    clear JI JK JL JM JB JR JD JS JB2 JM2
    go_wp2
    go_end0
    exact ⟨rfl, Q⟩
  · rw [if_neg hlt] at hN
    have hle : D ≤ m3 := Int.not_lt.1 hlt
    have mm0 := JM.cell
    have Q : FarI w0 m g ss k kb lb bb mb rb q c (y * wid ss + x + 1) w1 := ⟨JI, JK, JL, by rw [hN]; exact JM, by rw [hN]; exact JB, JR, JD, JS⟩
    have HN := Lib.hid hN; clear hN
    clear hlt JI JK JL JM JB JR JD JS
    go_wp2
    go_end0
    exact ⟨rfl, Q⟩
set_option maxRecDepth 100000 in
set_option maxHeartbeats 4000000 in
theorem farthestOf_any (p : Option Addr) (c : Nat) (ss : List ByteArray) (k : Int) (w : World) (hn : ss.length ≤ 1048576) (hs : ∀ s ∈ ss, s.size ≤ 1048576) (hr : Rd w p ss.length (strAt ss)) :
    Calls Try.prog 47 #[.agg #[.slice p ss.length c], .int .i64 k] w fun e w' =>
      e = .returned (.tuple #[.agg #[.int .i64 (farR ss k).1.1, .int .i64 (farR ss k).1.2], .int .i64 (farR ss k).2, .bool (someB ss k)]) ∧ Below w.heap.size w w' := by
  have S := (((Since.refl w).alloc (.cells #[.slice p ss.length c] 30)).alloc (.cells #[.int .i64 k] 2)).alloc (.cells #[.int .i64 0, .int .i64 0] 27)
  have R := ((hr.alloc (.cells #[.slice p ss.length c] 30)).alloc (.cells #[.int .i64 k] 2)).alloc (.cells #[.int .i64 0, .int .i64 0] 27)
  have A := (Box.new (w.alloc (.cells #[.slice p ss.length c] 30)) (.int .i64 k) 2).alloc (.cells #[.int .i64 0, .int .i64 0] 27)
  have B := Blk.new ((w.alloc (.cells #[.slice p ss.length c] 30)).alloc (.cells #[.int .i64 k] 2)) #[.int .i64 0, .int .i64 0] 27
  simp only [World.size_alloc] at A B
  have a0 := A.cell
  have hv0 : someB ss k = false → farR ss k = ((0, 0), 0) := fun h => by simp [farR, h]
  have hv1 : someB ss k = true → farR ss k = farN (wid ss) (distD ss k) (wid ss * ss.length) := fun h => by simp [farR, h]
  have Hv0 := Lib.hid hv0; clear hv0
  have Hv1 := Lib.hid hv1; clear hv1
  go_enter Try.func47, Try.ntmps47
  go_wp2_with fail
  refine (withBlack_any p c ss k _ hn hs R).mono ?_
  rintro e w1 ⟨hb, ⟨h, rfl⟩ | ⟨h, m, g, v, rfl, I, O, hm, hg⟩⟩
  · replace S := (S.bl hb).alloc (.cells #[.slice none 0 0] 51)
    replace B := (B.bl hb).alloc (.cells #[.slice none 0 0] 51)
    have v1 := Hv0.out h
    have H := Lib.hid h; clear h
    have V1 := Lib.hid v1; clear v1
    clear hb R A a0
    have hlt := B.lt
    obtain ⟨e0, f0, e1, f1, t0, t1⟩ := B.two (.int .i64 0) (.int .i64 0)
    go_wp2
    refine bodyPost_ret (v := .tuple #[.agg #[.int .i64 0, .int .i64 0], .int .i64 0, .bool false]) (by simp [results, Try.results47, go_sem, t0, t1]) rfl ⟨by rw [V1.out, H.out], (S.set2 (b := w.heap.size + 1 + 1) (by omega) _ _).below⟩
  · have v1 := Hv1.out h
    obtain ⟨ho, _, _⟩ := someB_true h
    have hd := okPic_dims ho
    obtain ⟨hd1, hd2, hd3, hd4⟩ := hd
    replace S := S.bl hb
    replace B := B.bl hb
    replace A := A.bl hb
    have hz := hb.size
    clear hb R a0
    simp only [World.size_alloc] at hm hg hz
    have hIl := I.lt
    have hq : ∀ b o, v = .slice (some ⟨b, o, none⟩) (spotsL ss).length 0 → True := fun _ _ _ => trivial
    have hge := O.ge
    obtain ⟨q, d, rfl⟩ := O.form
    have y1 := bl_alloc w1 (.cells #[.slice q (spotsL ss).length d] 51)
    have Lx := Box.new w1 (.slice q (spotsL ss).length d) 51
    have O1 := O.bl y1
    have Rd1 := O1.rd
    replace S := S.bl y1
    replace B := B.bl y1
    replace A := A.bl y1
    replace I := I.bl y1
    have y2 := bl_alloc (w1.alloc (.cells #[.slice q (spotsL ss).length d] 51)) (.cells #[.int .i64 0, .int .i64 0] 27)
    have Bx := Blk.new (w1.alloc (.cells #[.slice q (spotsL ss).length d] 51)) #[.int .i64 0, .int .i64 0] 27
    replace S := S.bl y2
    replace B := B.bl y2
    replace A := A.bl y2
    replace I := I.bl y2
    replace Lx := Lx.bl y2
    replace Rd1 := Rd1.bl y2
    have y3 := bl_alloc ((w1.alloc (.cells #[.slice q (spotsL ss).length d] 51)).alloc (.cells #[.int .i64 0, .int .i64 0] 27)) (.cells #[.int .i64 (-1)] 2)
    have Mx := Box.new ((w1.alloc (.cells #[.slice q (spotsL ss).length d] 51)).alloc (.cells #[.int .i64 0, .int .i64 0] 27)) (.int .i64 (-1)) 2
    replace S := S.bl y3
    replace B := B.bl y3
    replace A := A.bl y3
    replace I := I.bl y3
    replace Lx := Lx.bl y3
    replace Rd1 := Rd1.bl y3
    replace Bx := Bx.bl y3
    simp only [World.size_alloc] at Bx Mx
    have J0 : FarI w m g ss k (w.heap.size + 1) w1.heap.size (w1.heap.size + 1) (w1.heap.size + 1 + 1) (w.heap.size + 1 + 1) q d 0 (((w1.alloc (.cells #[.slice q (spotsL ss).length d] 51)).alloc (.cells #[.int .i64 0, .int .i64 0] 27)).alloc (.cells #[.int .i64 (-1)] 2)) :=
      ⟨I, A, Lx, Mx, Bx, B, Rd1, S⟩
    have hqq : ∀ b o, q = some ⟨b, o, none⟩ → b < w1.heap.size + 1 := fun b o e => by have := hge b (by rw [e]; rfl); omega
    have FA : FarAt w m g (w.heap.size + 1) w1.heap.size (w1.heap.size + 1) (w1.heap.size + 1 + 1) (w.heap.size + 1 + 1) q :=
      ⟨by omega, by omega, by omega, by omega, by omega, by omega, by omega, hqq⟩
    have hcf := callFunc_farthest1
    have ce := each_any 107 m g (wid ss) ss.length #[.pointer (some ⟨w.heap.size + 1, 0, none⟩), .pointer (some ⟨w1.heap.size, 0, none⟩), .pointer (some ⟨w1.heap.size + 1 + 1, 0, none⟩), .pointer (some ⟨w1.heap.size + 1, 0, none⟩)]
      (fun n w' => FarI w m g ss k (w.heap.size + 1) w1.heap.size (w1.heap.size + 1) (w1.heap.size + 1 + 1) (w.heap.size + 1 + 1) q d n w') _ hd4 hd2 hcf (fun n w' J => ⟨J.img.c0, J.img.c1⟩)
      (fun x y w' hx hy J => farthest1_any w m g ss k _ _ _ _ _ q d x y w' FA h hx hy J) J0
    have H := Lib.hid h; clear h
    have V1 := Lib.hid v1; clear v1
    have Ho := Lib.hid ho; clear ho
    have Ce := Lib.hid ce; clear ce
    clear hge hqq O O1 Rd1 y1 y2 y3 S B A I Lx Bx Mx J0 hq hcf
    go_wp2_with fail
    refine Ce.out.mono ?_
    rintro e w2 ⟨rfl, J⟩
    obtain ⟨JI, JK, JL, JM, JB, JR, JD, JS⟩ := J
    obtain ⟨M, eM⟩ : ∃ M, farN (wid ss) (distD ss k) (wid ss * ss.length) = M := ⟨_, rfl⟩
    rw [eM] at JM JB
    obtain ⟨⟨m1, m2⟩, m3⟩ := M
    dsimp only at JM JB
    have g0 := JM.cell
    have b0 := JB.cat 0 rfl
    have b1 := JB.cat 1 rfl
    have mc : CellAt w2 (w1.heap.size + 1 + 1) 0 (.int .i64 m3) := g0
    obtain ⟨e0, f0, e1, f1, t0, t1⟩ := JR.two (.int .i64 m1) (.int .i64 m2)
    have S3 := JS.set2 (b := w.heap.size + 1 + 1) (by omega) (.int .i64 m1) (.int .i64 m2)
    have EM := Lib.hid eM; clear eM
    clear JI JK JL JM JB JR JD JS FA g0
    go_wp2
    go_region_held3 (fun w' => w'.cell? ⟨w1.heap.size + 1, 0, none⟩ = some (.int .i64 m1) ∧ w'.cell? ⟨w1.heap.size + 1, 1, none⟩ = some (.int .i64 m2) ∧ w'.cell? ⟨w1.heap.size + 1 + 1, 0, none⟩ = some (.int .i64 m3))
      (first | ((repeat' (apply And.intro)) <;> (refine CellAt.out ?_; (repeat (first | assumption | exact Blk.cat (Blk.new _ _ _) _ rfl | refine CellAt.bl ?_ (bl_alloc _ _) | refine CellAt.bl ?_ (bl_drew _) | refine CellAt.bl ?_ (bl_drewN _ _) | refine CellAt.bl ?_ (by assumption) | refine CellAt.other ?_ (by intro e; injection e; omega) _)))))
      (fail)
    go_wp2
    refine bodyPost_ret (v := .tuple #[.agg #[.int .i64 m1, .int .i64 m2], .int .i64 m3, .bool true]) (by simp [results, Try.results47, go_sem, t0, t1]) rfl ⟨by rw [V1.out, H.out, EM.out], S3.below.drew⟩
end Go.Proofs.Ytakoklldmdbphaa
