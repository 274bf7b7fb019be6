/- The law FnDistances: for every input the call returns true, and the inputs read as they did. -/
import Derived.Test.YtakoklldmdbphaaNearPic
import Derived.Test.YtakoklldmdbphaaR8S
import Derived.Test.YtakoklldmdbphaaOpenB
set_option linter.unusedVariables false
set_option linter.unusedSimpArgs false
namespace Go.Proofs.Ytakoklldmdbphaa.lawFnDistances
open Go.RowKit Go.Proofs.Ytakoklldmdbphaa

set_option maxRecDepth 100000 in
set_option maxHeartbeats 16000000 in
theorem walk (p : Option Addr) (c : Nat) (l : List Int) (q : Option Addr) (d : Nat) (m : List Int) (w : World) (hl : l.length ≤ maxLen) (hb1 : ∀ x ∈ l, 0 ≤ x ∧ x ≤ 255) (hr1 : Rd w p l.length (byteAt l)) (hm : m.length ≤ maxLen) (hb2 : ∀ x ∈ m, 0 ≤ x ∧ x ≤ 255) (hr2 : Rd w q m.length (byteAt m)) :
    Calls Try.prog 11 #[.slice p l.length c, .slice q m.length d] w fun e w' => e = .returned (.bool true) ∧ Below w.heap.size w w' := by
  have cl := r8Long_any p q c d l.length m.length w
  cases hlong : (decide (48 < l.length) || decide (48 < m.length))
  · rw [hlong] at cl
    simp only [Bool.or_eq_false_iff, decide_eq_false_iff_not] at hlong
    obtain ⟨hl1, hl2⟩ := hlong
    have c1 := r8Picture_any p c l w hr1 hb1 (by omega)
    clear hr1 hl hm
    have Cl := Lib.hid cl; clear cl
    have C1 := Lib.hid c1; clear c1
    have Hb1 := Lib.hid hb1; clear hb1
    have Hb2 := Lib.hid hb2; clear hb2
    go_enter Try.func11, Try.ntmps11
    go_wp2_with fail
    with_reducible (refine Cl.out.mono ?_)
    rintro e w1 ⟨rfl, rfl⟩
    go_wp2_with fail
    with_reducible (refine C1.out.mono ?_)
    rintro e w1 ⟨p1, k1, W, H, f, rfl, P, hb⟩
    have T := (Since.refl w).bl hb
    replace hr2 := hr2.bl hb
    have hy := bl_alloc w1 (.cells #[.slice p1 H k1] 30)
    have A := Box.new w1 (.slice p1 H k1) 30
    replace T := T.bl hy
    replace P := P.bl hy
    replace hr2 := hr2.bl hy
    clear hb hy Cl C1
    have x5 := A.cell
    have hW1 := P.w1
    have hW2 := P.w2
    have hH1 := P.h1
    have hH2 := P.h2
    obtain ⟨pb, po, e1, hpb, hpc⟩ := P.rd.at (k := 0) (by omega)
    have x0 := hpc 0 (by omega)
    obtain ⟨s, hs0, es, hsz, -⟩ := row_sign (f := f) hH1 hW1 hW2 hH2 (x := 0) (y := 0) (by omega) (by omega)
    rw [strAt, es, Nat.add_zero] at x0
    have x5' := x5
    rw [e1] at x5'
    have c3 := r8At_any q d m 0 3 0 3 _ rfl rfl (by omega) (by omega) (by omega) (by omega) hr2 Hb2.out
    have hH0 : (0 : Int) < (H : Int) := by omega
    have hs16 : s.size ≤ 16 := by omega
    subst e1
    have C3 := Lib.hid c3; clear c3
    have Es := Lib.hid es; clear es
    have Hsz := Lib.hid hsz; clear hsz
    have Hpc := Lib.hid hpc; clear hpc
    clear hr2 x5'
    go_wp2_with fail
    rw [Hsz.out]
    with_reducible (refine C3.out.mono ?_)
    rintro e w2 ⟨k, hk, rfl, rfl⟩
    clear x0 hs0 hs16
    obtain ⟨n, en⟩ : ∃ n, (spotsTo W f (W * H)).length = n := ⟨_, rfl⟩
    have cc := fun w P => count_pic (some ⟨pb, po, none⟩) W H k1 f w P
    rw [en] at cc
    rcases Nat.eq_zero_or_pos n with hn0 | hn0
    · subst hn0
      have cd := dist_none (some ⟨pb, po, none⟩) W H k1 k f _ P hk en
      have cf := fun w P => farthest_none (some ⟨pb, po, none⟩) W H k1 k f w P hk en
      have cv := fun w P => valid_pic (some ⟨pb, po, none⟩) W H k1 f w P
      have Cd := Lib.hid cd; clear cd
      have Cf := Lib.hid cf; clear cf
      have Cv := Lib.hid cv; clear cv
      have Cc := Lib.hid cc; clear cc
      have En := Lib.hid en; clear en
      go_wp2_with fail
      with_reducible (refine Cd.out.mono ?_)
      rintro e w2 ⟨v, rfl, hb⟩
      replace T := T.bl hb
      replace P := P.bl hb
      replace A := A.bl hb
      clear hb x5
      have x5 := A.cell
      go_wp2_with fail
      with_reducible (refine (Cf.out _ P).mono ?_)
      rintro e w3 ⟨rfl, hb⟩
      replace T := T.bl hb
      replace P := P.bl hb
      replace A := A.bl hb
      have hy := bl_alloc w3 (.cells #[.int .i64 0, .int .i64 0] 27)
      replace T := T.bl hy
      replace P := P.bl hy
      replace A := A.bl hy
      clear hb x5 hy
      have x5 := A.cell
      go_wp2_with fail
      with_reducible (refine (Cc.out _ P).mono ?_)
      rintro e w4 ⟨rfl, hb⟩
      replace T := T.bl hb
      replace P := P.bl hb
      replace A := A.bl hb
      clear hb x5
      have x5 := A.cell
      go_wp2_with fail
      with_reducible (refine (Cv.out _ P).mono ?_)
      rintro e w5 ⟨rfl, hb⟩
      replace T := T.bl hb
      go_wp2
      go_ret
      exact ⟨rfl, T.below⟩
    · have h0 : 0 < (spotsTo W f (W * H)).length := by omega
      have cd := dist_pic (some ⟨pb, po, none⟩) W H k1 k f _ P hk h0
      have cf := fun w P => farthest_pic (some ⟨pb, po, none⟩) W H k1 k f w P hk h0
      have cn := fun x y w P hx hy => nearest_pic (some ⟨pb, po, none⟩) W H k1 k x y f w P hk h0 hx hy
      have hat := fun x y hx hy => near_at (W := W) (H := H) (x := x) (y := y) (f := f) k h0 hx hy
      have hdat : ∀ x y, x < W → dAt W k (spotsTo W f (W * H)) (y * W + x) = bestD (farG k x y) (spotsTo W f (W * H)) := fun x y hx => by rw [dAt, (at_mod hx).1, (at_mod hx).2]
      have hn1 : (0 : Int) < (n : Int) := by omega
      generalize spotsTo W f (W * H) = L at *
      have Cd := Lib.hid cd; clear cd
      have Cf := Lib.hid cf; clear cf
      have Cn := Lib.hid cn; clear cn
      have Hat := Lib.hid hat; clear hat
      have Cc := Lib.hid cc; clear cc
      have En := Lib.hid en; clear en
      have H0 := Lib.hid h0; clear h0
      have Hdat := Lib.hid hdat; clear hdat
      go_wp2_with fail
      with_reducible (refine Cd.out.mono ?_)
      rintro e w2 ⟨v, rfl, O, hb⟩
      replace T := T.bl hb
      replace P := P.bl hb
      replace A := A.bl hb
      obtain ⟨gp, gc, rfl⟩ := (show ∃ p c, v = .slice p (gridL W H (dAt W k L)).length c from by obtain ⟨vs, O3⟩ := O; exact O3.form)
      have G : RdSS w2 gp (gridL W H (dAt W k L)) := by obtain ⟨vs, O3⟩ := O; exact O3.rds
      rw [gridL_len]
      clear hb x5 O
      have x5 := A.cell
      go_wp2_with fail
      with_reducible (refine (Cf.out _ P).mono ?_)
      rintro e w3 ⟨fu, fv, M, hfu, hfv, rfl, hM1, hM2, hb⟩
      have HM1 := Lib.hid hM1; clear hM1
      have HM2 := Lib.hid hM2; clear hM2
      replace T := T.bl hb
      replace P := P.bl hb
      replace A := A.bl hb
      replace G := G.bl hb
      have hy := bl_alloc w3 (.cells #[.int .i64 (fu : Int), .int .i64 (fv : Int)] 27)
      have F := Blk.new w3 #[.int .i64 (fu : Int), .int .i64 (fv : Int)] 27
      replace T := T.bl hy
      replace P := P.bl hy
      replace A := A.bl hy
      replace G := G.bl hy
      clear hb x5 hy
      have x5 := A.cell
      go_wp2_with fail
      with_reducible (refine (Cc.out _ P).mono ?_)
      rintro e w4 ⟨rfl, hb⟩
      replace T := T.bl hb
      replace P := P.bl hb
      replace A := A.bl hb
      replace G := G.bl hb
      replace F := F.bl hb
      clear hb x5
      have x5 := A.cell
      have x11 := F.cell 0 rfl
      have y11 := F.cell 1 rfl
      have hfu0 : (0 : Int) ≤ (fu : Int) := Int.natCast_nonneg _
      have hfv0 : (0 : Int) ≤ (fv : Int) := Int.natCast_nonneg _
      have hfu1 : (fu : Int) < (W : Int) := by omega
      have hfv1 : (fv : Int) < (H : Int) := by omega
      have hfu2 : ¬ W ≤ fu := by omega
      have hfv2 : ¬ H ≤ fv := by omega
      go_wp2_with fail
      clear x5 x11 y11
      go_loopw [16] (fun i wr => ∃ y : Nat, y ≤ H ∧ i = .int .i64 y ∧ Since w4 wr) (fun i _ => H - (intOf i).toNat)
      case atStart => exact ⟨0, Nat.zero_le _, rfl, Since.refl _⟩
      case round =>
        obtain ⟨y, hy, rfl, U⟩ := hrel
        by_cases hyH : y < H
        · have G1 := G.bl U.below
          obtain ⟨vs, gr, gi⟩ := G1
          obtain ⟨gb, go, rfl, hgb, gc1⟩ := gr.at (k := y) (by rw [gridL_len]; exact hyH)
          obtain ⟨q2, d2, e2, rr⟩ := gi y (by rw [gridL_len]; exact hyH)
          have a0 := gc1 y (by rw [gridL_len]; exact hyH)
          rw [e2] at a0
          rw [gridL_at _ _ _ _ hyH, rowL_len] at a0 rr
          have hy0 : (0 : Int) ≤ (y : Int) := Int.natCast_nonneg _
          have hy1 : (y : Int) < (H : Int) := by omega
          have Gc1 := Lib.hid gc1; clear gc1
          have Gi := Lib.hid gi; clear gi
          have E2 := Lib.hid e2; clear e2
          have Gr := Lib.hid gr; clear gr
          clear rr
          go_wp2
          go_loopw [17] (fun i wr => ∃ x : Nat, x ≤ W ∧ i = .int .i64 x ∧ Since w4 wr) (fun i _ => W - (intOf i).toNat)
          case atStart => exact ⟨0, Nat.zero_le _, rfl, U⟩
          case round =>
            clear a0 U
            obtain ⟨x, hx, rfl, U⟩ := hrel
            by_cases hxW : x < W
            · have P1 := P.bl U.below
              have A1 := A.bl U.below
              have hx0 : (0 : Int) ≤ (x : Int) := Int.natCast_nonneg _
              have hx1 : (x : Int) < (W : Int) := by omega
              obtain ⟨u, v, D, hu, hv, hfuv, hbest, hbd, hfar, hD0, hfxy, hall⟩ := Hat.out x y hxW hyH
              have hdM := HM2.out (y * W + x) (at_lt hxW hyH)
              rw [Hdat.out x y hxW, hbd] at hdM
              have b0 := Blk.new wr #[.int .i64 (x : Int), .int .i64 (y : Int)] 27
              have hyy := bl_alloc wr (.cells #[.int .i64 (x : Int), .int .i64 (y : Int)] 27)
              replace P1 := P1.bl hyy
              replace A1 := A1.bl hyy
              replace U := U.bl hyy
              have c2 := Cn.out x y _ P1 hxW hyH u v hbest
              have x5 := A1.cell
              have z0 := b0.cell 0 rfl
              have z1 := b0.cell 1 rfl
              have C2 := Lib.hid c2; clear c2
              have Hfuv := Lib.hid hfuv; clear hfuv
              have Hbest := Lib.hid hbest; clear hbest
              have Hbd := Lib.hid hbd; clear hbd
              have Hfar := Lib.hid hfar; clear hfar
              have Hfxy := Lib.hid hfxy; clear hfxy
              have Hall := Lib.hid hall; clear hall
              clear hyy
              go_wp2_with fail
              with_reducible (refine C2.out.mono ?_)
              rintro e w5 ⟨rfl, hb⟩
              replace P1 := P1.bl hb
              replace A1 := A1.bl hb
              replace U := U.bl hb
              replace b0 := b0.bl hb
              have hyy := bl_alloc w5 (.cells #[.int .i64 (u : Int), .int .i64 (v : Int)] 27)
              have b1 := Blk.new w5 #[.int .i64 (u : Int), .int .i64 (v : Int)] 27
              replace P1 := P1.bl hyy
              replace A1 := A1.bl hyy
              replace U := U.bl hyy
              replace b0 := b0.bl hyy
              clear hb hyy x5 z0 z1 C2
              have x5 := A1.cell
              have z0 := b0.cell 0 rfl
              have z1 := b0.cell 1 rfl
              have z2 := b1.cell 0 rfl
              have z3 := b1.cell 1 rfl
              have cM := fun w => far_near k x y u v w hk (by omega) (by omega) (by omega) (by omega)
              simp only [Hfar.out] at cM
              have CM := Lib.hid cM; clear cM
              go_wp2_with fail
              with_reducible (refine (CM.out _).mono ?_)
              rintro e w6 ⟨rfl, hb⟩
              replace P1 := P1.bl hb
              replace A1 := A1.bl hb
              replace U := U.bl hb
              replace b0 := b0.bl hb
              replace b1 := b1.bl hb
              clear hb x5 z0 z1 z2 z3 CM
              have x5 := A1.cell
              have z0 := b0.cell 0 rfl
              have z1 := b0.cell 1 rfl
              have z2 := b1.cell 0 rfl
              have z3 := b1.cell 1 rfl
              have G1 := G.bl U.below
              obtain ⟨vs, gr, gi⟩ := G1
              obtain ⟨gb', go', e3, hgb, gc1⟩ := gr.at (k := y) (by rw [gridL_len]; exact hyH)
              simp only [Option.some.injEq, Addr.mk.injEq, and_true] at e3
              obtain ⟨rfl, rfl⟩ := e3
              obtain ⟨q2, d2, e2, rr⟩ := gi y (by rw [gridL_len]; exact hyH)
              have a0 := gc1 y (by rw [gridL_len]; exact hyH)
              rw [e2] at a0
              rw [gridL_at _ _ _ _ hyH, rowL_len] at a0 rr
              obtain ⟨qb, qo, rfl, hqb, qc⟩ := rr.at (k := x) hxW
              have a1 := qc x hxW
              rw [intAt, rowL_at _ _ _ hxW, Hdat.out x y hxW, Hbd.out] at a1
              have cB1 := r8Black_any (some ⟨pb, po, none⟩) W H k1 f u v u v _ P1 hu hv rfl rfl
              have cB2 := fun w P => r8Black_any (some ⟨pb, po, none⟩) W H k1 f x y x y w P hxW hyH rfl rfl
              rw [Hfuv.out] at cB1
              simp only [Hfxy.out] at cB2
              have CB1 := Lib.hid cB1; clear cB1
              have CB2 := Lib.hid cB2; clear cB2
              have Gc1 := Lib.hid gc1; clear gc1
              have Gi := Lib.hid gi; clear gi
              have E2 := Lib.hid e2; clear e2
              have Gr := Lib.hid gr; clear gr
              have Qc := Lib.hid qc; clear qc
              clear rr
              go_wp2_with fail
              with_reducible (refine CB1.out.mono ?_)
              rintro e w7 ⟨rfl, hb⟩
              replace P1 := P1.bl hb
              replace A1 := A1.bl hb
              replace U := U.bl hb
              replace b0 := b0.bl hb
              replace b1 := b1.bl hb
              clear hb x5 z0 z1 z2 z3 CB1 a0 a1
              have x5 := A1.cell
              have z0 := b0.cell 0 rfl
              have z1 := b0.cell 1 rfl
              have z2 := b1.cell 0 rfl
              have z3 := b1.cell 1 rfl
              go_wp2_with fail
              with_reducible (refine (CB2.out _ P1).mono ?_)
              rintro e w8 ⟨rfl, hb⟩
              replace P1 := P1.bl hb
              replace A1 := A1.bl hb
              replace U := U.bl hb
              replace b0 := b0.bl hb
              replace b1 := b1.bl hb
              clear hb x5 z0 z1 z2 z3 CB2
              go_wp2_with fail
              go_loopw [23] (fun i wr => ∃ j : Nat, j ≤ H ∧ i = .int .i64 j ∧ Since w8 wr) (fun i _ => H - (intOf i).toNat)
              case atStart => exact ⟨0, Nat.zero_le _, rfl, Since.refl _⟩
              case round =>
                obtain ⟨j, hj, rfl, V⟩ := hrel
                by_cases hjH : j < H
                · have hj0 : (0 : Int) ≤ (j : Int) := Int.natCast_nonneg _
                  have hj1 : (j : Int) < (H : Int) := by omega
                  go_wp2
                  go_loopw [24] (fun i wr => ∃ n : Nat, n ≤ W ∧ i = .int .i64 n ∧ Since w8 wr) (fun i _ => W - (intOf i).toNat)
                  case atStart => exact ⟨0, Nat.zero_le _, rfl, V⟩
                  case round =>
                    clear V
                    obtain ⟨i, hi, rfl, V⟩ := hrel
                    by_cases hiW : i < W
                    · have P2 := P1.bl V.below
                      have A2 := A1.bl V.below
                      have b2 := b0.bl V.below
                      have b3 := b1.bl V.below
                      have x5 := A2.cell
                      have z0 := b2.cell 0 rfl
                      have z1 := b2.cell 1 rfl
                      have z2 := b3.cell 0 rfl
                      have z3 := b3.cell 1 rfl
                      have hi0 : (0 : Int) ≤ (i : Int) := Int.natCast_nonneg _
                      have hi1 : (i : Int) < (W : Int) := by omega
                      have hij := Hall.out i j hiW hjH
                      have cO := fun w => far_near k x y i j w hk (by omega) (by omega) (by omega) (by omega)
                      have cB := fun w P => r8Black_any (some ⟨pb, po, none⟩) W H k1 f i j i j w P hiW hjH rfl rfl
                      obtain ⟨E, eE⟩ : ∃ E, farZ k x y i j = E := ⟨_, rfl⟩
                      rw [eE] at hij
                      simp only [eE] at cO
                      have hbf : (j < v) ∨ (j = v ∧ i < u) ∨ (j = v ∧ u ≤ i) ∨ (v < j) := by omega
                      have hd : f (j * W + i) = false ∨ (f (j * W + i) = true ∧ D < E) ∨ (f (j * W + i) = true ∧ E = D ∧ ¬ (j < v ∨ (j = v ∧ i < u))) := by
                        cases hf : f (j * W + i)
                        · exact .inl rfl
                        · have := hij hf
                          rcases Int.lt_or_eq_of_le this.1 with h | h
                          · exact .inr (.inl ⟨rfl, h⟩)
                          · exact .inr (.inr ⟨rfl, h.symm, this.2 h.symm⟩)
                      clear hij
                      have EE := Lib.hid eE; clear eE
                      rcases hd with hf | ⟨hf, h3⟩ | ⟨hf, rfl, h3⟩
                      all_goals
                        simp only [hf] at cB
                        rcases hbf with h1 | ⟨h1, h2⟩ | ⟨h1, h2⟩ | h1
                        all_goals
                          first
                            | exfalso; omega
                            | skip
                        all_goals
                          try subst h1
                          have CB := Lib.hid cB; clear cB
                          have CO := Lib.hid cO; clear cO
                          have Hf := Lib.hid hf; clear hf
                          go_wp2_with fail
                          with_reducible (refine (CO.out _).mono ?_)
                          rintro e w9 ⟨rfl, hb⟩
                          replace P2 := P2.bl hb
                          replace A2 := A2.bl hb
                          replace V := V.bl hb
                          replace b2 := b2.bl hb
                          replace b3 := b3.bl hb
                          clear hb x5 z0 z1 z2 z3 CO
                          have x5 := A2.cell
                          have z0 := b2.cell 0 rfl
                          have z1 := b2.cell 1 rfl
                          have z2 := b3.cell 0 rfl
                          have z3 := b3.cell 1 rfl
                          go_wp2_with fail
                          with_reducible (refine (CB.out _ P2).mono ?_)
                          rintro e w9 ⟨rfl, hb⟩
                          replace V := V.bl hb
                          clear hb x5 z0 z1 z2 z3 CB P2 A2 b2 b3
                          go_wp2
                          go_roundw
                          case rel => exact ⟨i + 1, by omega, by go_num, V⟩
                          case measure => simp [intOf]; omega
                    · obtain rfl : i = W := by omega
                      go_wp2
                      go_roundw
                      case rel => exact ⟨j + 1, by omega, by go_num, V⟩
                      case measure => simp [intOf]; omega
                · have U2 := U.bl (V.below)
                  clear b0 b1 P1 A1
                  go_wp2
                  go_roundw
                  case rel => exact ⟨x + 1, by omega, by go_num, U2⟩
                  case measure => simp [intOf]; omega
            · obtain rfl : x = W := by omega
              go_wp2
              go_roundw
              case rel => exact ⟨y + 1, by omega, by go_num, U⟩
              case measure => simp [intOf]; omega
        · obtain rfl : y = H := by omega
          have G1 := G.bl U.below
          have F1 := F.bl U.below
          have T2 := T.bl U.below
          obtain ⟨vs, gr, gi⟩ := G1
          obtain ⟨gb, go, rfl, hgb, gc1⟩ := gr.at (k := fv) (by rw [gridL_len]; exact hfv)
          obtain ⟨q2, d2, e2, rr⟩ := gi fv (by rw [gridL_len]; exact hfv)
          have a0 := gc1 fv (by rw [gridL_len]; exact hfv)
          rw [e2] at a0
          rw [gridL_at _ _ _ _ hfv, rowL_len] at a0 rr
          obtain ⟨qb, qo, rfl, hqb, qc⟩ := rr.at (k := fu) hfu
          have a1 := qc fu hfu
          rw [intAt, rowL_at _ _ _ hfu, HM1.out] at a1
          have x11 := F1.cell 0 rfl
          have y11 := F1.cell 1 rfl
          have Gc1 := Lib.hid gc1; clear gc1
          have Gi := Lib.hid gi; clear gi
          have E2 := Lib.hid e2; clear e2
          have Gr := Lib.hid gr; clear gr
          have Qc := Lib.hid qc; clear qc
          clear rr
          go_wp2
          go_quiet (fail)
          go_wp2
          go_ret
          exact ⟨ret_bool (by simp), (T2.bl (bl_drewN _ _)).below⟩
  · rw [hlong] at cl
    clear hr1 hr2 hb1 hb2
    have Cl := Lib.hid cl; clear cl
    go_enter Try.func11, Try.ntmps11
    go_wp2_with fail
    with_reducible (refine Cl.out.mono ?_)
    rintro e w1 ⟨rfl, rfl⟩
    go_wp2
    go_ret
    exact ⟨rfl, Below.refl _ _⟩
open Go.ChangeShapes Go.WideShapes Go.ChangeAt
open Go.ChangeMaps (open_string shut_string)

set_option maxRecDepth 100000 in
theorem lifted (os : Os) (started : os.Started) (H : Type) (enc : TypeId × Value → H) :
    ReturnsInHanded {} Try.checked os 11 .any (Rows.fnDistancesSpec.pre6 enc Try.prog Try.f11 Rows.fnDistancesRow.domain false) (Rows.fnDistancesSpec.post enc Try.prog Try.f11 false true false false) := by
  refine returnsInHanded_of_change (C := Try.checked) own started (by kernel_rfl) Try.func11
    (ChangeSpec.witness6 (enc := enc) (C := Try.checked) false ⟨#[], #[.slice none 0 0, .slice none 0 0], []⟩ 8 (by kernel_rfl) (by kernel_rfl) (by kernel_rfl) (by kernel_rfl)) ?_
  intro W base args ds gs before hval0 hW hcnd _
  have hval : ∀ (j : Nat) t v, Try.f11.params[j]? = some t → args[j]? = some v → Value.okWide Try.prog W .any base t v := hval0
  have hW' := hW
  obtain ⟨p, q, hA0, hV, rfl, hfz, hnd⟩ := hW
  have hA : DataW.TrodAll enc Try.prog W 0 (fun _ => true) true Try.f11.params.toList args.toList ds p := hA0
  rw [Try.params11] at hA hval
  obtain ⟨v0, vs0, d0, ds0, p0, q0, hargs, rfl, rfl, h0, r0⟩ := trodAll_cons hA
  obtain ⟨v1, vs1, d1, ds1, p1, q1, rfl, rfl, rfl, h1, r1⟩ := trodAll_cons r0
  obtain ⟨rfl, rfl, rfl⟩ := trodAll_nil r1
  obtain rfl : args = #[v0, v1] := by cases args; simp_all
  obtain ⟨rfl, rfl⟩ := trodVars_none hV
  have t0 : ∀ x ∈ p0, x.block < W.heap.size := fun x hx => hW'.lt x (by simp [hx])
  have k0 := hval 0 48 v0 rfl rfl
  have m0 := h0
  obtain ⟨p0', c0', l0', rfl, p0'n, p0's, p0'r⟩ := open_Bytes k0 h0
  have t1 : ∀ x ∈ p1, x.block < W.heap.size := fun x hx => hW'.lt x (by simp [hx])
  have k1 := hval 1 48 v1 rfl rfl
  have m1 := h1
  obtain ⟨p1', c1', l1', rfl, p1'n, p1's, p1'r⟩ := open_Bytes k1 h1
  refine (walk p0' c0' l0' p1' c1' l1' W p0'n p0's p0'r p1'n p1's p1'r).mono fun e W' ⟨he, hb⟩ => ?_
  subst he
  refine ⟨_, rfl, _, _, _, [], _, [], hW', trodAll_mk1 (shut_bool Try.underlying4 _), (trodAll_cons_mk (Below.trod laidOut (by kernel_rfl) (of_decide_eq_true (by kernel_rfl)) m0 hb t0) (trodAll_cons_mk (Below.trod laidOut (by kernel_rfl) (of_decide_eq_true (by kernel_rfl)) m1 hb t1) trodAll_mk0)), rfl, hb.frame _, fun h => by cases h⟩

theorem over : Rows.fnDistancesRow.holds Try.pinned (OpenSpec.ofChange Rows.fnDistancesSpec) :=
  OpenClaim.holds_of_wide 11 Try.f11 rfl rfl rfl rfl rfl rfl rfl ⟨rfl, rfl, rfl, rfl, rfl⟩ rfl rfl rfl rfl rfl (by kernel_rfl) Try.func11 (by kernel_rfl)
    (of_decide_eq_true (by kernel_rfl)) (by unfold Func.isWrapper; first | (rw [if_pos (by decide +kernel)]; kernel_rfl) | (rw [if_neg (by decide +kernel)]; exact ⟨rfl, rfl⟩))
    (fun os started H enc _ => lifted os started H enc)

theorem proved : Rows.FnDistancesSaid := over
#print axioms proved
end Go.Proofs.Ytakoklldmdbphaa.lawFnDistances
