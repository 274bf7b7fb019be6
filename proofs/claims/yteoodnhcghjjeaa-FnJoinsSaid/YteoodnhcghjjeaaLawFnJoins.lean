/- The law FnJoins: for every input the call returns true, and the inputs read as they did. -/
import Derived.Test.YteoodnhcghjjeaaJoinSrc
import Derived.Test.YteoodnhcghjjeaaOpenB
set_option linter.unusedVariables false
set_option linter.unusedSimpArgs false
namespace Go.Proofs.Yteoodnhcghjjeaa.lawFnJoins
open Go.RowKit Go.Proofs.Yteoodnhcghjjeaa

theorem joinB_at (o : Nat) (z : Int) (h : z = o) (h3 : o < 4) (a b : Bool) : (z = 0 → joinB o a b = (a && b)) ∧ (z = 1 → joinB o a b = (a || b)) ∧ (z = 2 → joinB o a b = (a != b)) ∧ (z = 3 → joinB o a b = (a && !b)) := by
  subst h
  refine ⟨fun h => ?_, fun h => ?_, fun h => ?_, fun h => ?_⟩
  · obtain rfl : o = 0 := by omega
    rfl
  · obtain rfl : o = 1 := by omega
    rfl
  · obtain rfl : o = 2 := by omega
    rfl
  · obtain rfl : o = 3 := by omega
    rfl
set_option maxRecDepth 100000 in
set_option maxHeartbeats 1000000 in
theorem walk (p : Option Addr) (c : Nat) (l : List Int) (q : Option Addr) (d : Nat) (m : List Int) (w : World) (hl : l.length ≤ maxLen) (hb1 : ∀ x ∈ l, 0 ≤ x ∧ x ≤ 255) (hr1 : Rd w p l.length (byteAt l)) (hm : m.length ≤ maxLen) (hb2 : ∀ x ∈ m, 0 ≤ x ∧ x ≤ 255) (hr2 : Rd w q m.length (byteAt m)) :
    Calls Try.prog 14 #[.slice p l.length c, .slice q m.length d] w fun e w' => e = .returned (.bool true) ∧ Below w.heap.size w w' := by
  have cl := b10Long_any p q c d l.length m.length w
  cases hlong : (decide (1048576 < l.length) || decide (1048576 < m.length))
  · rw [hlong] at cl
    simp only [Bool.or_eq_false_iff, decide_eq_false_iff_not] at hlong
    obtain ⟨hl1, hl2⟩ := hlong
    have c1 := b10Picture_any p c l w hr1 hb1 (by omega)
    clear hr1 hl hm
    have Cl := Lib.hid cl; clear cl
    have C1 := Lib.hid c1; clear c1
    have Hb1 := Lib.hid hb1; clear hb1
    have Hb2 := Lib.hid hb2; clear hb2
    go_enter Try.func14, Try.ntmps14
    go_wp2_with fail
    with_reducible (refine Cl.out.mono ?_)
    rintro e w1 ⟨rfl, rfl⟩
    go_wp2_with fail
    with_reducible (refine C1.out.mono ?_)
    rintro e w1 ⟨p1, k1, W, H, f, rfl, P, hb⟩
    have T := (Since.refl w).bl hb
    replace hr2 := hr2.bl hb
    have hy := bl_alloc w1 (.cells #[.slice p1 H k1] 28)
    have A := Box.new w1 (.slice p1 H k1) 28
    replace T := T.bl hy
    replace P := P.bl hy
    replace hr2 := hr2.bl hy
    clear hb hy Cl C1
    have x5 := A.cell
    have c2 := b10Like_any q d m p1 k1 W H f _ hr2 Hb2.out (by omega) P
    have C2 := Lib.hid c2; clear c2
    go_wp2_with fail
    with_reducible (refine C2.out.mono ?_)
    rintro e w2 ⟨p2, k2, g, rfl, Q, hb⟩
    clear C2 x5
    replace T := T.bl hb
    replace P := P.bl hb
    replace A := A.bl hb
    replace hr2 := hr2.bl hb
    have hy := bl_alloc w2 (.cells #[.slice p2 H k2] 28)
    have B := Box.new w2 (.slice p2 H k2) 28
    replace T := T.bl hy
    replace P := P.bl hy
    replace Q := Q.bl hy
    replace A := A.bl hy
    replace hr2 := hr2.bl hy
    clear hb hy
    have x5 := A.cell
    have x6 := B.cell
    have c3 := b10At_any q d m 0 4 0 4 _ rfl rfl (by omega) (by omega) (by omega) (by omega) hr2 Hb2.out
    have C3 := Lib.hid c3; clear c3
    go_wp2_with fail
    with_reducible (refine C3.out.mono ?_)
    rintro e w3 ⟨o, ho, rfl, rfl⟩
    clear C3 hr2
    obtain ⟨z, hz⟩ : ∃ z : Int, z = (o : Int) := ⟨_, rfl⟩
    rw [← hz]
    have c4 := fun w hP hQ => join_pic z o hz (by omega) p1 p2 W H k1 k2 f g w hP hQ
    have c5 := fun w hP hQ => join_pic 3 3 rfl (by omega) p1 p2 W H k1 k2 f g w hP hQ
    have hz4 : z = 0 ∨ z = 1 ∨ z = 2 ∨ z = 3 := by omega
    have C4 := Lib.hid c4; clear c4
    have C5 := Lib.hid c5; clear c5
    have Hz := Lib.hid hz; clear hz
    go_wp2_with fail
    with_reducible (refine (C4.out _ P Q).mono ?_)
    rintro e w3 ⟨p3, k3, rfl, PR, hb⟩
    clear C4 x5 x6
    replace T := T.bl hb
    replace P := P.bl hb
    replace Q := Q.bl hb
    replace A := A.bl hb
    replace B := B.bl hb
    have hy := bl_alloc w3 (.cells #[.slice p3 H k3] 28)
    have D := Box.new w3 (.slice p3 H k3) 28
    replace T := T.bl hy
    replace P := P.bl hy
    replace Q := Q.bl hy
    replace A := A.bl hy
    replace B := B.bl hy
    replace PR := PR.bl hy
    clear hb hy
    have x5 := A.cell
    have x6 := B.cell
    go_wp2_with fail
    with_reducible (refine (C5.out _ P Q).mono ?_)
    rintro e w4 ⟨p4, k4, rfl, PL, hb⟩
    clear C5 x5 x6
    replace T := T.bl hb
    replace P := P.bl hb
    replace Q := Q.bl hb
    replace A := A.bl hb
    replace B := B.bl hb
    replace PR := PR.bl hb
    replace D := D.bl hb
    have hy := bl_alloc w4 (.cells #[.slice p4 H k4] 28)
    have E := Box.new w4 (.slice p4 H k4) 28
    replace T := T.bl hy
    replace P := P.bl hy
    replace Q := Q.bl hy
    replace A := A.bl hy
    replace B := B.bl hy
    replace PR := PR.bl hy
    replace D := D.bl hy
    replace PL := PL.bl hy
    clear hb hy
    have x10 := E.cell
    have x5 := A.cell
    have c6 := count_pic p4 W H k4 _ _ PL
    have hlf := left_in W f g (W * H)
    have hsl := spotsTo_len W (fun i => joinB 3 (f i) (g i)) (W * H)
    obtain ⟨n, en⟩ : ∃ n, (spotsTo W (fun i => joinB 3 (f i) (g i)) (W * H)).length = n := ⟨_, rfl⟩
    rw [en] at c6 hlf hsl
    have C6 := Lib.hid c6; clear c6
    have Hlf := Lib.hid hlf; clear hlf
    have En := Lib.hid en; clear en
    have Hsl := Lib.hid hsl; clear hsl
    go_wp2_with fail
    with_reducible (refine C6.out.mono ?_)
    rintro e w5 ⟨rfl, hb⟩
    clear C6 x10 x5 E
    replace T := T.bl hb
    replace P := P.bl hb
    replace Q := Q.bl hb
    replace A := A.bl hb
    replace B := B.bl hb
    replace PR := PR.bl hb
    replace D := D.bl hb
    clear hb PL
    have x5 := A.cell
    have c7 := inv_pic p1 W H k1 f _ P
    have C7 := Lib.hid c7; clear c7
    go_wp2_with fail
    with_reducible (refine C7.out.mono ?_)
    rintro e w6 ⟨p6, k6, rfl, PX, hb⟩
    clear C7 x5
    replace T := T.bl hb
    replace P := P.bl hb
    replace Q := Q.bl hb
    replace A := A.bl hb
    replace B := B.bl hb
    replace PR := PR.bl hb
    replace D := D.bl hb
    have hy := bl_alloc w6 (.cells #[.slice p6 H k6] 28)
    have F := Box.new w6 (.slice p6 H k6) 28
    replace T := T.bl hy
    replace P := P.bl hy
    replace Q := Q.bl hy
    replace A := A.bl hy
    replace B := B.bl hy
    replace PR := PR.bl hy
    replace D := D.bl hy
    replace PX := PX.bl hy
    clear hb hy
    have x14 := F.cell
    have c8 := inv_pic p6 W H k6 _ _ PX
    have C8 := Lib.hid c8; clear c8
    go_wp2_with fail
    with_reducible (refine C8.out.mono ?_)
    rintro e w7 ⟨p7, k7, rfl, PY, hb⟩
    clear C8 x14
    replace T := T.bl hb
    replace P := P.bl hb
    replace Q := Q.bl hb
    replace A := A.bl hb
    replace B := B.bl hb
    replace PR := PR.bl hb
    replace D := D.bl hb
    replace PX := PX.bl hb
    replace F := F.bl hb
    have hy := bl_alloc w7 (.cells #[.slice p7 H k7] 28)
    have G := Box.new w7 (.slice p7 H k7) 28
    replace T := T.bl hy
    replace P := P.bl hy
    replace Q := Q.bl hy
    replace A := A.bl hy
    replace B := B.bl hy
    replace PR := PR.bl hy
    replace D := D.bl hy
    replace PX := PX.bl hy
    replace PY := PY.bl hy
    replace F := F.bl hy
    clear hb hy
    have hnn : (fun i => !(!f i)) = f := by funext i; simp
    rw [hnn] at PY
    have x16 := G.cell
    have x5 := A.cell
    have x6 := B.cell
    have c9 := same_pic p7 p1 W H k7 k1 f _ PY P
    have C9 := Lib.hid c9; clear c9
    have Hnn := Lib.hid hnn; clear hnn
    go_wp2_with fail
    with_reducible (refine C9.out.mono ?_)
    rintro e w8 ⟨rfl, hb⟩
    clear C9 x16 x5 x6 PY G
    replace T := T.bl hb
    replace P := P.bl hb
    replace Q := Q.bl hb
    replace A := A.bl hb
    replace B := B.bl hb
    replace PR := PR.bl hb
    replace D := D.bl hb
    replace PX := PX.bl hb
    replace F := F.bl hb
    clear hb
    have x5 := A.cell
    have x6 := B.cell
    have ca := inside_pic p1 p2 W H k1 k2 f g _ P Q
    rw [Hlf.out] at ca
    have Ca := Lib.hid ca; clear ca
    go_wp2_with fail
    with_reducible (refine Ca.out.mono ?_)
    rintro e w9 ⟨rfl, hb⟩
    clear Ca x5 x6
    replace T := T.bl hb
    replace P := P.bl hb
    replace Q := Q.bl hb
    replace A := A.bl hb
    replace B := B.bl hb
    replace PR := PR.bl hb
    replace D := D.bl hb
    replace PX := PX.bl hb
    replace F := F.bl hb
    clear hb Hlf Hsl En
    obtain ⟨wi, ewi⟩ : ∃ wi : World, wi = w9 := ⟨_, rfl⟩
    subst ewi
    have hpx := fun (u v : Nat) hu hv w h => black_pic p1 W H k1 f u v w h hu hv
    have hqx := fun (u v : Nat) hu hv w h => black_pic p2 W H k2 g u v w h hu hv
    have hrx := fun (u v : Nat) hu hv w h => black_pic p3 W H k3 (fun i => joinB o (f i) (g i)) u v w h hu hv
    have hxx := fun (u v : Nat) hu hv w h => black_pic p6 W H k6 (fun i => !f i) u v w h hu hv
    have hW1 := P.w1
    have hH1 := P.h1
    have hW2 := P.w2
    have hH2 := P.h2
    have Hpx := Lib.hid hpx; clear hpx
    have Hqx := Lib.hid hqx; clear hqx
    have Hrx := Lib.hid hrx; clear hrx
    have Hxx := Lib.hid hxx; clear hxx
    have x5 := A.cell
    go_wp2
    go_loopw [18] (fun v wr => ∃ y : Nat, y ≤ H ∧ v = .int .i64 y ∧ Since wi wr) (fun v _ => H - (intOf v).toNat)
    case atStart => exact ⟨0, Nat.zero_le _, rfl, Since.refl _⟩
    case round =>
      clear x5
      obtain ⟨y, hy, rfl, U⟩ := hrel
      have x5 := (A.bl U.below).cell
      by_cases hyH : y < H
      · go_wp2
        go_loopw [19] (fun v wr => ∃ x : Nat, x ≤ W ∧ v = .int .i64 x ∧ Since wi wr) (fun v _ => W - (intOf v).toNat)
        case atStart => exact ⟨0, Nat.zero_le _, rfl, U⟩
        case round =>
          clear U x5
          obtain ⟨x, hx, rfl, U⟩ := hrel
          have P1 := P.bl U.below
          have A1 := A.bl U.below
          have x5 := A1.cell
          obtain ⟨pb, po, epb, hpb, hpc⟩ := P1.rd.at (k := 0) (by omega)
          have y0 := hpc 0 (by omega)
          rw [Nat.add_zero] at y0
          unfold strAt at y0
          have hsz : ((render W H f).getD 0 ByteArray.empty).size = W := wid_render hH1
          generalize (render W H f).getD 0 ByteArray.empty = s0 at *
          subst epb
          have Hpc := Lib.hid hpc; clear hpc
          by_cases hxW : x < W
          · have hsz2 : (x : Int) < (s0.size : Int) := by omega
            have Hsz := Lib.hid hsz; clear hsz
            have vq := Q.bl U.below
            have vr := PR.bl U.below
            have vx := PX.bl U.below
            have B1 := B.bl U.below
            have D1 := D.bl U.below
            have F1 := F.bl U.below
            have s1 := Hpx.out x y hxW hyH _ P1
            have s2 := fun w h => Hqx.out x y hxW hyH w h
            have s3 := fun w h => Hrx.out x y hxW hyH w h
            have s4 := fun w h => Hxx.out x y hxW hyH w h
            generalize f (y * W + x) = a at *
            generalize g (y * W + x) = b at *
            have S1 := Lib.hid s1; clear s1
            have S2 := Lib.hid s2; clear s2
            have S3 := Lib.hid s3; clear s3
            have S4 := Lib.hid s4; clear s4
            go_wp2_with fail
            with_reducible (refine S1.out.mono ?_)
            rintro e w10 ⟨rfl, hb⟩
            clear x5 P1 A1 S1 y0
            replace U := U.bl hb
            replace vq := vq.bl hb
            replace vr := vr.bl hb
            replace vx := vx.bl hb
            replace B1 := B1.bl hb
            replace D1 := D1.bl hb
            replace F1 := F1.bl hb
            clear hb
            have x6 := B1.cell
            go_wp2_with fail
            with_reducible (refine (S2.out _ vq).mono ?_)
            rintro e w11 ⟨rfl, hb⟩
            clear x6 vq B1 S2
            replace U := U.bl hb
            replace vr := vr.bl hb
            replace vx := vx.bl hb
            replace D1 := D1.bl hb
            replace F1 := F1.bl hb
            clear hb
            have vr2 := fun o => vr.bl (bl_alloc w11 o)
            have vx2 := fun o => vx.bl (bl_alloc w11 o)
            have D2 := fun o => D1.bl (bl_alloc w11 o)
            have F2 := fun o => F1.bl (bl_alloc w11 o)
            have U2 := fun o => U.bl (bl_alloc w11 o)
            have x8 := fun o => (D2 o).cell
            have s5 := joinB_at o z Hz.out (by omega) a b
            have s6 := S3.out
            generalize joinB o a b = jv at *
            obtain ⟨s50, s51, s52, s53⟩ := s5
            rcases hz4 with rfl | rfl | rfl | rfl
            · obtain rfl := s50 rfl
              clear s50 s51 s52 s53 S3 vr vx D1 F1 U
              have S6 := Lib.hid s6; clear s6
              have Vr2 := Lib.hid vr2; clear vr2
              have Vx2 := Lib.hid vx2; clear vx2
              cases a <;> cases b
              all_goals
                go_wp2_with fail
                with_reducible (refine (S6.out _ (Vr2.out _)).mono ?_)
                rintro e w12 ⟨rfl, hb⟩
                have U3 := (U2 _).bl hb
                have F3 := (F2 _).bl hb
                have vx3 := (Vx2.out _).bl hb
                clear S6 Vr2 Vx2 D2 F2 U2 x8 hb
                have x14 := F3.cell
                go_wp2_with fail
                with_reducible (refine (S4.out _ vx3).mono ?_)
                rintro e w13 ⟨rfl, hb⟩
                have U4 := U3.bl hb
                clear hb S4 U3 F3 vx3 x14
                go_wp2
                go_roundw
                case rel => exact ⟨x + 1, by omega, by go_num, U4⟩
                case measure => simp [intOf]; omega
            · obtain rfl := s51 rfl
              clear s50 s51 s52 s53 S3 vr vx D1 F1 U
              have S6 := Lib.hid s6; clear s6
              have Vr2 := Lib.hid vr2; clear vr2
              have Vx2 := Lib.hid vx2; clear vx2
              cases a <;> cases b
              all_goals
                go_wp2_with fail
                with_reducible (refine (S6.out _ (Vr2.out _)).mono ?_)
                rintro e w12 ⟨rfl, hb⟩
                have U3 := (U2 _).bl hb
                have F3 := (F2 _).bl hb
                have vx3 := (Vx2.out _).bl hb
                clear S6 Vr2 Vx2 D2 F2 U2 x8 hb
                have x14 := F3.cell
                go_wp2_with fail
                with_reducible (refine (S4.out _ vx3).mono ?_)
                rintro e w13 ⟨rfl, hb⟩
                have U4 := U3.bl hb
                clear hb S4 U3 F3 vx3 x14
                go_wp2
                go_roundw
                case rel => exact ⟨x + 1, by omega, by go_num, U4⟩
                case measure => simp [intOf]; omega
            · obtain rfl := s52 rfl
              clear s50 s51 s52 s53 S3 vr vx D1 F1 U
              have S6 := Lib.hid s6; clear s6
              have Vr2 := Lib.hid vr2; clear vr2
              have Vx2 := Lib.hid vx2; clear vx2
              cases a <;> cases b
              all_goals
                go_wp2_with fail
                with_reducible (refine (S6.out _ (Vr2.out _)).mono ?_)
                rintro e w12 ⟨rfl, hb⟩
                have U3 := (U2 _).bl hb
                have F3 := (F2 _).bl hb
                have vx3 := (Vx2.out _).bl hb
                clear S6 Vr2 Vx2 D2 F2 U2 x8 hb
                have x14 := F3.cell
                go_wp2_with fail
                with_reducible (refine (S4.out _ vx3).mono ?_)
                rintro e w13 ⟨rfl, hb⟩
                have U4 := U3.bl hb
                clear hb S4 U3 F3 vx3 x14
                go_wp2
                go_roundw
                case rel => exact ⟨x + 1, by omega, by go_num, U4⟩
                case measure => simp [intOf]; omega
            · obtain rfl := s53 rfl
              clear s50 s51 s52 s53 S3 vr vx D1 F1 U
              have S6 := Lib.hid s6; clear s6
              have Vr2 := Lib.hid vr2; clear vr2
              have Vx2 := Lib.hid vx2; clear vx2
              cases a <;> cases b
              all_goals
                go_wp2_with fail
                with_reducible (refine (S6.out _ (Vr2.out _)).mono ?_)
                rintro e w12 ⟨rfl, hb⟩
                have U3 := (U2 _).bl hb
                have F3 := (F2 _).bl hb
                have vx3 := (Vx2.out _).bl hb
                clear S6 Vr2 Vx2 D2 F2 U2 x8 hb
                have x14 := F3.cell
                go_wp2_with fail
                with_reducible (refine (S4.out _ vx3).mono ?_)
                rintro e w13 ⟨rfl, hb⟩
                have U4 := U3.bl hb
                clear hb S4 U3 F3 vx3 x14
                go_wp2
                go_roundw
                case rel => exact ⟨x + 1, by omega, by go_num, U4⟩
                case measure => simp [intOf]; omega
          · have hsz2 : ¬ (x : Int) < (s0.size : Int) := by omega
            have Hsz := Lib.hid hsz; clear hsz
            go_wp2
            go_roundw
            case rel => exact ⟨y + 1, by omega, by go_num, U⟩
            case measure => simp [intOf]; omega
      · obtain rfl : y = H := by omega
        have T2 := T.bl ((U.below).mono (Nat.le_refl _))
        have x8 := (D.bl U.below).cell
        go_wp2
        go_ret
        exact ⟨rfl, T2.below⟩
  · rw [hlong] at cl
    clear hr1 hr2 hb1 hb2
    have Cl := Lib.hid cl; clear cl
    go_enter Try.func14, Try.ntmps14
    go_wp2_with fail
    with_reducible (refine Cl.out.mono ?_)
    rintro e w1 ⟨rfl, rfl⟩
    go_wp2
    go_ret
    exact ⟨rfl, Below.refl _ _⟩
open Go.ChangeShapes Go.WideShapes Go.ChangeAt
open Go.ChangeMaps (open_string shut_string)

set_option maxRecDepth 100000 in
theorem lifted (os : Os) (started : os.Started) (H : Type) (enc : TypeId × Value → H) :
    ReturnsInHanded {} Try.checked os 14 .any (Rows.fnJoinsSpec.pre6 enc Try.prog Try.f14 Rows.fnJoinsRow.domain false) (Rows.fnJoinsSpec.post enc Try.prog Try.f14 false true false false) := by
  refine returnsInHanded_of_change (C := Try.checked) own started (by kernel_rfl) Try.func14
    (ChangeSpec.witness6 (enc := enc) (C := Try.checked) false ⟨#[], #[.slice none 0 0, .slice none 0 0], []⟩ 8 (by kernel_rfl) (by kernel_rfl) (by kernel_rfl) (by kernel_rfl)) ?_
  intro W base args ds gs before hval0 hW hcnd _
  have hval : ∀ (j : Nat) t v, Try.f14.params[j]? = some t → args[j]? = some v → Value.okWide Try.prog W .any base t v := hval0
  have hW' := hW
  obtain ⟨p, q, hA0, hV, rfl, hfz, hnd⟩ := hW
  have hA : DataW.TrodAll enc Try.prog W 0 (fun _ => true) true Try.f14.params.toList args.toList ds p := hA0
  rw [Try.params14] at hA hval
  obtain ⟨v0, vs0, d0, ds0, p0, q0, hargs, rfl, rfl, h0, r0⟩ := trodAll_cons hA
  obtain ⟨v1, vs1, d1, ds1, p1, q1, rfl, rfl, rfl, h1, r1⟩ := trodAll_cons r0
  obtain ⟨rfl, rfl, rfl⟩ := trodAll_nil r1
  obtain rfl : args = #[v0, v1] := by cases args; simp_all
  obtain ⟨rfl, rfl⟩ := trodVars_none hV
  have t0 : ∀ x ∈ p0, x.block < W.heap.size := fun x hx => hW'.lt x (by simp [hx])
  have k0 := hval 0 62 v0 rfl rfl
  have m0 := h0
  obtain ⟨p0', c0', l0', rfl, p0'n, p0's, p0'r⟩ := open_Bytes k0 h0
  have t1 : ∀ x ∈ p1, x.block < W.heap.size := fun x hx => hW'.lt x (by simp [hx])
  have k1 := hval 1 62 v1 rfl rfl
  have m1 := h1
  obtain ⟨p1', c1', l1', rfl, p1'n, p1's, p1'r⟩ := open_Bytes k1 h1
  refine (walk p0' c0' l0' p1' c1' l1' W p0'n p0's p0'r p1'n p1's p1'r).mono fun e W' ⟨he, hb⟩ => ?_
  subst he
  refine ⟨_, rfl, _, _, _, [], _, [], hW', trodAll_mk1 (shut_bool Try.underlying4 _), (trodAll_cons_mk (Below.trod laidOut (by kernel_rfl) (of_decide_eq_true (by kernel_rfl)) m0 hb t0) (trodAll_cons_mk (Below.trod laidOut (by kernel_rfl) (of_decide_eq_true (by kernel_rfl)) m1 hb t1) trodAll_mk0)), rfl, hb.frame _, fun h => by cases h⟩

theorem over : Rows.fnJoinsRow.holds Try.pinned (OpenSpec.ofChange Rows.fnJoinsSpec) :=
  OpenClaim.holds_of_wide 14 Try.f14 rfl rfl rfl rfl rfl rfl rfl ⟨rfl, rfl, rfl, rfl, rfl⟩ rfl rfl rfl rfl rfl (by kernel_rfl) Try.func14 (by kernel_rfl)
    (of_decide_eq_true (by kernel_rfl)) (by unfold Func.isWrapper; first | (rw [if_pos (by decide +kernel)]; kernel_rfl) | (rw [if_neg (by decide +kernel)]; exact ⟨rfl, rfl⟩))
    (fun os started H enc _ => lifted os started H enc)

theorem proved : Rows.FnJoinsSaid := over
#print axioms proved
end Go.Proofs.Yteoodnhcghjjeaa.lawFnJoins
