/- Contract of the program's EdgeLength. -/
import Derived.Test.YtakoklldmdbphaaEdge
set_option linter.unusedVariables false
namespace Go.Proofs.Ytakoklldmdbphaa
open Go.RowKit

theorem arN_push {x y x' y' : Int} {k : Nat} (h : arIs k = true) (hx : x' = x + (((k % 3 : Nat) : Int) - 1)) (hy : y' = y + (((k / 3 : Nat) : Int) - 1)) : spotCells (arN x y (k + 1)) = spotCells (arN x y k) ++ [.int .i64 x', .int .i64 y'] ∧ (arN x y (k + 1)).length = (arN x y k).length + 1 := by
  rw [arN_yes h hx hy, spotCells_snoc]
  exact ⟨rfl, by simp⟩
/-- The loop of around: n places are looked at. -/
def ArRel (w : World) (x y : Int) (n : Nat) (v : Value) (wr : World) : Prop :=
  ∃ p c, v = .slice p (arN x y n).length c ∧ wr.ownsRow w.heap.size 27 2 (.slice p (arN x y n).length c) (arN x y n).length (spotCells (arN x y n)) ∧ Since w wr
def ArIn (w : World) (x y : Int) (r : Nat) (v i : Value) (wr : World) : Prop := ∃ (s : Nat) (e : Int), s ≤ 3 ∧ i = .int .i64 e ∧ e = (s : Int) - 1 ∧ ArRel w x y (3 * r + s) v wr
def ArOut (w : World) (x y : Int) (v i : Value) (wr : World) : Prop := ∃ (r : Nat) (d : Int), r ≤ 3 ∧ i = .int .i64 d ∧ d = (r : Int) - 1 ∧ ArRel w x y (3 * r) v wr
set_option maxRecDepth 100000 in
set_option maxHeartbeats 4000000 in
theorem around_any (x y : Int) (w : World) (hx0 : -1000 ≤ x) (hx1 : x ≤ 1000) (hy0 : -1000 ≤ y) (hy1 : y ≤ 1000) :
    Calls Try.prog 77 #[.int .i64 x, .int .i64 y, .bool false] w fun e w' => ∃ v, e = .returned v ∧ OwnSpots w.heap.size w' v (arN x y 9) ∧ Below w.heap.size w w' := by
  go_enter Try.func77, Try.ntmps77
  go_wp2
  go_loopw [7, 8] (fun v i wr => ArOut w x y v i wr) (fun _ i _ => (2 - intOf i).toNat)
  case atStart => unfold ArOut ArRel; exact ⟨0, -1, by omega, rfl, rfl, _, _, rfl, World.ownsRow_made (size := 2) w #[] 0 (Nat.le_refl _) (by decide) rfl, (Since.refl w).alloc _⟩
  case round =>
    obtain ⟨r, d, hr, rfl, hd, R⟩ := hrel
    have hd1 : d ≤ (r : Int) - 1 := by omega
    have hd2 : (r : Int) - 1 ≤ d := by omega
    clear hd
    by_cases hr3 : r < 3
    · go_wp2
      go_loopw [7, 9] (fun v i wr => ArIn w x y r v i wr) (fun _ i _ => (2 - intOf i).toNat)
      case atStart => unfold ArIn; exact ⟨0, -1, by omega, rfl, rfl, R⟩
      case round =>
        clear R
        obtain ⟨s, e, hs, rfl, he, q, c, rfl, hown, S⟩ := hrel
        have he1 : e ≤ (s : Int) - 1 := by omega
        have he2 : (s : Int) - 1 ≤ e := by omega
        have hsz := S.size
        clear he
        by_cases hs3 : s < 3
        · by_cases hd0 : d = 0
          · have t1 : (d != 0) = false := by simp [hd0]
            have t2 : (d == 0) = true := by simp [hd0]
            by_cases he0 : e = 0
            · have t3 : (e != 0) = false := by simp [he0]
              have t4 : (e == 0) = true := by simp [he0]
              have hd3 : d ≤ 0 := by omega
              have hd4 : 0 ≤ d := by omega
              have he3 : e ≤ 0 := by omega
              have he4 : 0 ≤ e := by omega
              clear hd0 he0
              have hsu := arN_no (x := x) (y := y) (k := 3 * r + s) (by simp [arIs]; omega)
              have Hsu := Lib.hid hsu; clear hsu
              go_wp2
              go_roundw
              case rel =>
                unfold ArIn
                refine ⟨s + 1, e + 1, by omega, rfl, by omega, ?_⟩
                unfold ArRel
                rw [← Nat.add_assoc, Hsu.out]
                exact ⟨_, _, rfl, hown, S⟩
              case measure => simp [intOf]; omega
            · have t3 : (e != 0) = true := by simp [he0]
              have t4 : (e == 0) = false := by simp [he0]
              have hd3 : d ≤ 0 := by omega
              have hd4 : 0 ≤ d := by omega
              have he5 : s ≠ 1 := by omega
              clear hd0 he0
              have hsu := fun x' y' hx hy => arN_push (x := x) (y := y) (x' := x') (y' := y') (k := 3 * r + s) (by simp [arIs]; omega) hx hy
              have hle := arN_le x y (3 * r + s)
              obtain ⟨n1, en1⟩ : ∃ n1, (arN x y (3 * r + s)).length = n1 := ⟨_, rfl⟩
              rw [en1] at hsu hown hle ⊢
              have Hsu := Lib.hid hsu; clear hsu
              have En1 := Lib.hid en1; clear en1
              go_wp2_with (at_builtin; refine wpList_push rfl _ _ 51 rfl w.heap.size 27 (.agg #[.int .i64 0, .int .i64 0]) 2 16 Try.underlying51 info_spot rfl (by decide) (.slice q n1 c) n1 _ rfl hown _ 1 rfl rfl (one_spot _ _) (by omega) (by simp [maxLen]; omega) hsz ?_; intro g' cap w2 hown2 hgr hat hlt2)
              have S2 : Since w w2 := ⟨below_own S.below hgr (own_ge hown) hsz⟩
              go_roundw
              case rel =>
                unfold ArIn
                refine ⟨s + 1, e + 1, by omega, rfl, by omega, ?_⟩
                have h2 := Hsu.out (x + e) (y + d) (by omega) (by omega)
                unfold ArRel
                rw [← Nat.add_assoc, h2.1, h2.2]
                exact ⟨_, _, rfl, hown2, S2⟩
              case measure => simp [intOf]; omega
          · have t1 : (d != 0) = true := by simp [hd0]
            have t2 : (d == 0) = false := by simp [hd0]
            have hd5 : r ≠ 1 := by omega
            by_cases he0 : e = 0
            · have t3 : (e != 0) = false := by simp [he0]
              have t4 : (e == 0) = true := by simp [he0]
              have he3 : e ≤ 0 := by omega
              have he4 : 0 ≤ e := by omega
              clear hd0 he0
              have hsu := fun x' y' hx hy => arN_push (x := x) (y := y) (x' := x') (y' := y') (k := 3 * r + s) (by simp [arIs]; omega) hx hy
              have hle := arN_le x y (3 * r + s)
              obtain ⟨n1, en1⟩ : ∃ n1, (arN x y (3 * r + s)).length = n1 := ⟨_, rfl⟩
              rw [en1] at hsu hown hle ⊢
              have Hsu := Lib.hid hsu; clear hsu
              have En1 := Lib.hid en1; clear en1
              go_wp2_with (at_builtin; refine wpList_push rfl _ _ 51 rfl w.heap.size 27 (.agg #[.int .i64 0, .int .i64 0]) 2 16 Try.underlying51 info_spot rfl (by decide) (.slice q n1 c) n1 _ rfl hown _ 1 rfl rfl (one_spot _ _) (by omega) (by simp [maxLen]; omega) hsz ?_; intro g' cap w2 hown2 hgr hat hlt2)
              have S2 : Since w w2 := ⟨below_own S.below hgr (own_ge hown) hsz⟩
              go_roundw
              case rel =>
                unfold ArIn
                refine ⟨s + 1, e + 1, by omega, rfl, by omega, ?_⟩
                have h2 := Hsu.out (x + e) (y + d) (by omega) (by omega)
                unfold ArRel
                rw [← Nat.add_assoc, h2.1, h2.2]
                exact ⟨_, _, rfl, hown2, S2⟩
              case measure => simp [intOf]; omega
            · have t3 : (e != 0) = true := by simp [he0]
              have t4 : (e == 0) = false := by simp [he0]
              have he5 : s ≠ 1 := by omega
              clear hd0 he0
              have hsu := arN_no (x := x) (y := y) (k := 3 * r + s) (by simp [arIs]; omega)
              have Hsu := Lib.hid hsu; clear hsu
              go_wp2
              go_roundw
              case rel =>
                unfold ArIn
                refine ⟨s + 1, e + 1, by omega, rfl, by omega, ?_⟩
                unfold ArRel
                rw [← Nat.add_assoc, Hsu.out]
                exact ⟨_, _, rfl, hown, S⟩
              case measure => simp [intOf]; omega
        · obtain rfl : s = 3 := by omega
          have e1 : 3 * r + 3 = 3 * (r + 1) := by omega
          rw [e1] at hown
          have E1 := Lib.hid e1; clear e1
          go_wp2
          go_roundw
          case rel =>
            unfold ArOut
            refine ⟨r + 1, d + 1, by omega, rfl, by omega, ?_⟩
            unfold ArRel
            rw [← E1.out]
            rw [← E1.out] at hown
            exact ⟨_, _, rfl, hown, S⟩
          case measure => simp [intOf]; omega
    · obtain rfl : r = 3 := by omega
      obtain ⟨q, c, rfl, hown, S⟩ := R
      go_wp2
      go_ret
      exact ⟨_, rfl, ⟨_, _, rfl, hown⟩, S.below⟩
theorem eS_bd (W H : Nat) (f : Nat → Bool) (l : List (Int × Int)) : 0 ≤ eS W H f l ∧ eS W H f l ≤ 4 * l.length := by
  induction l with
  | nil => simp [eS]
  | cons a l ih =>
    have e : eS W H f (a :: l) = wS W H f (arN a.1 a.2 9) + eS W H f l := by simp [eS]
    have := edgeK_bd W H f a.1 a.2 4
    rw [e, wS_ar, List.length_cons]
    omega
theorem wS_bd (W H : Nat) (f : Nat → Bool) (l : List (Int × Int)) : 0 ≤ wS W H f l ∧ wS W H f l ≤ l.length := by
  induction l with
  | nil => simp [wS]
  | cons a l ih =>
    have e : wS W H f (a :: l) = nB (px W H f a.1 a.2) + wS W H f l := by simp [wS]
    have := nB_bd (px W H f a.1 a.2)
    rw [e, List.length_cons]
    omega
set_option maxRecDepth 100000 in
set_option maxHeartbeats 4000000 in
theorem edgeLength_any (p : Option Addr) (c : Nat) (ss : List ByteArray) (w : World) (hn : ss.length ≤ 1048576) (hs : ∀ s ∈ ss, s.size ≤ 1048576) (hr : Rd w p ss.length (strAt ss)) :
    Calls Try.prog 21 #[.agg #[.slice p ss.length c]] w fun e w' => e = .returned (.tuple #[.int .i64 (edgeL ss), .bool (okPic ss)]) ∧ Below w.heap.size w w' := by
  go_enter Try.func21, Try.ntmps21
  go_wp2_with fail
  refine (imageOf_any p c ss _ hn hs (hr.alloc _)).mono ?_
  rintro e w1 ⟨hb, ⟨h, rfl⟩ | ⟨h, m, g, rfl, hI, hm, hg⟩⟩
  · have hb1 := below_a1 hb
    have H := Lib.hid h; clear h
    go_wp2
    go_ret2
    exact ⟨by rw [edgeL, H.out]; rfl, hb1⟩
  · have S : Since w w1 := ⟨below_a1 hb⟩
    have hsl : spotsL ss = spotsTo (wid ss) (bits ss) (wid ss * ss.length) := by rw [spotsL, if_pos h]
    have hel : edgeL ss = eS (wid ss) ss.length (bits ss) (spotsL ss) := by rw [hsl, eS_spots, edgeL, if_pos h]
    have hmem := fun s => spotsL_mem (ss := ss) (s := s)
    have hlen := spotsL_len ss
    have c1 := spots_any m g _ _ _ w1 hI
    rw [← hsl] at c1
    obtain ⟨l, el⟩ : ∃ l, spotsL ss = l := ⟨_, rfl⟩
    rw [el] at c1 hlen hmem hel
    have c2 := fun x y w h => get_any m g (wid ss) ss.length (bits ss) x y w h
    obtain ⟨W, eW⟩ : ∃ W, wid ss = W := ⟨_, rfl⟩
    obtain ⟨H, eH⟩ : ∃ H, ss.length = H := ⟨_, rfl⟩
    obtain ⟨f, ef⟩ : ∃ f, bits ss = f := ⟨_, rfl⟩
    rw [eW, eH, ef] at hel hI
    simp only [eW, eH, ef] at c2
    have hIl := hI.lt
    clear hsl hb hm hg
    have hok := h
    clear h
    have Hok := Lib.hid hok; clear hok
    have Hel := Lib.hid hel; clear hel
    have Hmem := Lib.hid hmem; clear hmem
    have C1 := Lib.hid c1; clear c1
    have C2 := Lib.hid c2; clear c2
    have El := Lib.hid el; clear el
    have EW := Lib.hid eW; clear eW
    have EH := Lib.hid eH; clear eH
    have Ef := Lib.hid ef; clear ef
    go_wp2_with fail
    refine C1.out.mono ?_
    rintro e w2 ⟨v, rfl, O, hb2⟩
    obtain ⟨q, d, rfl⟩ := O.form
    have R := O.rd
    replace S := S.bl hb2
    replace hI := hI.bl hb2
    clear O hb2 C1
    go_wp2_with fail
    go_loopw [6, 21] (fun v i wr => ∃ k : Nat, k ≤ l.length ∧ i = .int .i64 k ∧ v = .int .i64 (eS W H f (l.take k)) ∧ Since w wr ∧ Since w2 wr) (fun _ i _ => l.length - (intOf i).toNat)
    case atStart => exact ⟨0, Nat.zero_le _, rfl, rfl, S, Since.refl _⟩
    case round =>
      clear S
      obtain ⟨k, hk, rfl, rfl, S, S2⟩ := hrel
      by_cases hkn : k < l.length
      · have I := hI.bl S2.below
        obtain ⟨b, o, hq, hb, hc⟩ := (R.bl S2.below).at (k := k * 2) (by omega)
        have a0 := hc (k * 2) (by omega)
        have a1 := hc (k * 2 + 1) (by omega)
        rw [spotAt_x] at a0
        rw [spotAt_y, ← Nat.add_assoc] at a1
        have hsu : eS W H f (l.take (k + 1)) = eS W H f (l.take k) + wS W H f (arN (l.getD k (0, 0)).1 (l.getD k (0, 0)).2 9) := sum_take (fun s : Int × Int => wS W H f (arN s.1 s.2 9)) l k (0, 0) hkn
        have hbd := eS_bd W H f (l.take k)
        have hlk : (l.take k).length ≤ k := List.length_take_le _ _
        have hxy := Hmem.out (l.getD k (0, 0)) (by simp [List.getD, List.getElem?_eq_getElem hkn])
        have hk0 : (0 : Int) ≤ (k : Int) := Int.natCast_nonneg _
        have hk1 : (k : Int) < (l.length : Int) := by omega
        generalize (l.getD k (0, 0)).1 = x at *
        generalize (l.getD k (0, 0)).2 = y at *
        generalize eS W H f (l.take k) = E at *
        obtain ⟨⟨x0, x1⟩, y0, y1⟩ := hxy
        obtain ⟨E0, E1⟩ := hbd
        obtain ⟨E2, eE2⟩ : ∃ E2, eS W H f (l.take (k + 1)) = E2 := ⟨_, rfl⟩
        rw [eE2] at hsu
        have ca := fun w => around_any x y w (by omega) (by omega) (by omega) (by omega)
        have hl4 := arN_len x y
        obtain ⟨A, eA⟩ : ∃ A, arN x y 9 = A := ⟨_, rfl⟩
        rw [eA] at hsu hl4
        simp only [eA] at ca
        cases hq
        have Hsu := Lib.hid hsu; clear hsu
        have Ca := Lib.hid ca; clear ca
        have EA := Lib.hid eA; clear eA
        have EE2 := Lib.hid eE2; clear eE2
        have Hl4 := Lib.hid hl4; clear hl4
        clear hc
        replace S := (S.alloc (.cells #[.int .i64 x, .int .i64 y] 27))
        replace S2 := (S2.alloc (.cells #[.int .i64 x, .int .i64 y] 27))
        go_wp2_with fail
        refine (Ca.out _).mono ?_
        rintro e w3 ⟨v, rfl, O, hb3⟩
        obtain ⟨q2, d2, rfl⟩ := O.form
        have R2 := O.rd
        replace S := S.bl hb3
        replace S2 := S2.bl hb3
        clear O hb3 Ca I a0 a1
        go_wp2_with fail
        go_loopw [6, 31] (fun v i wr => ∃ j : Nat, j ≤ A.length ∧ i = .int .i64 j ∧ v = .int .i64 (E + wS W H f (A.take j)) ∧ Since w wr ∧ Since w2 wr ∧ Since w3 wr) (fun _ i _ => A.length - (intOf i).toNat)
        case atStart => exact ⟨0, Nat.zero_le _, rfl, val_int (by simp [wS]), S, S2, Since.refl _⟩
        case round =>
          clear S S2
          obtain ⟨j, hj, rfl, rfl, S, S2, S3⟩ := hrel
          by_cases hjn : j < A.length
          · have hA4 : A.length ≤ 4 := by rw [Hl4.out]; omega
            have I := (hI.bl S2.below).bl (bl_alloc wr (.cells #[.int .i64 (A.getD j (0, 0)).1, .int .i64 (A.getD j (0, 0)).2] 27))
            obtain ⟨b', o', hq', hb', hc'⟩ := (R2.bl S3.below).at (k := j * 2) (by omega)
            have a0 := hc' (j * 2) (by omega)
            have a1 := hc' (j * 2 + 1) (by omega)
            rw [spotAt_x] at a0
            rw [spotAt_y, ← Nat.add_assoc] at a1
            have hs2 : wS W H f (A.take (j + 1)) = wS W H f (A.take j) + nB (px W H f (A.getD j (0, 0)).1 (A.getD j (0, 0)).2) := sum_take (fun q : Int × Int => nB (px W H f q.1 q.2)) A j (0, 0) hjn
            have hbd := wS_bd W H f (A.take j)
            have hlj : (A.take j).length ≤ j := List.length_take_le _ _
            have hj0 : (0 : Int) ≤ (j : Int) := Int.natCast_nonneg _
            have hj1 : (j : Int) < (A.length : Int) := by omega
            generalize (A.getD j (0, 0)).1 = x' at *
            generalize (A.getD j (0, 0)).2 = y' at *
            have cg := C2.out x' y' _ I
            have hv := nB_bd (px W H f x' y')
            obtain ⟨v, ev⟩ : ∃ v, px W H f x' y' = v := ⟨_, rfl⟩
            rw [ev] at cg hs2 hv
            have co := fun w => oneIf_not v w
            generalize nB v = nv at *
            obtain ⟨u, eu⟩ : ∃ u, wS W H f (A.take j) = u := ⟨_, rfl⟩
            obtain ⟨u2, eu2⟩ : ∃ u2, wS W H f (A.take (j + 1)) = u2 := ⟨_, rfl⟩
            rw [eu] at hs2 hbd ⊢
            rw [eu2] at hs2
            obtain ⟨u0, u1⟩ := hbd
            obtain ⟨v0, v1⟩ := hv
            cases hq'
            have Cg := Lib.hid cg; clear cg
            have Co := Lib.hid co; clear co
            have Hs2 := Lib.hid hs2; clear hs2
            have Eu := Lib.hid eu; clear eu
            have Eu2 := Lib.hid eu2; clear eu2
            have Ev := Lib.hid ev; clear ev
            clear hc'
            replace S := (S.alloc (.cells #[.int .i64 x', .int .i64 y'] 27))
            replace S2 := (S2.alloc (.cells #[.int .i64 x', .int .i64 y'] 27))
            replace S3 := (S3.alloc (.cells #[.int .i64 x', .int .i64 y'] 27))
            go_wp2_with fail
            refine Cg.out.mono ?_
            rintro e w4 ⟨rfl, n, rfl⟩
            replace S := S.bl (bl_drewN _ n)
            replace S2 := S2.bl (bl_drewN _ n)
            replace S3 := S3.bl (bl_drewN _ n)
            go_wp2_with fail
            refine (Co.out _).mono ?_
            rintro e w5 ⟨rfl, rfl⟩
            go_wp2
            go_roundw
            case rel => exact ⟨j + 1, by omega, by go_num, val_int (by rw [Eu2.out, Hs2.out]; omega), S, S2, S3⟩
            case measure => simp [intOf]; omega
          · obtain rfl : j = A.length := by omega
            have hE : E + wS W H f (A.take A.length) = E2 := by rw [List.take_length, Hsu.out]
            have HE := Lib.hid hE; clear hE
            go_wp2
            go_roundw
            case rel => exact ⟨k + 1, by omega, by go_num, by rw [HE.out, EE2.out], S, S2⟩
            case measure => simp [intOf]; omega
      · obtain rfl : k = l.length := by omega
        go_wp2
        go_ret2
        exact ⟨by rw [Hel.out, Hok.out, List.take_length]; rfl, S.below⟩
end Go.Proofs.Ytakoklldmdbphaa
