/- Contract of the program's QuadCounts. -/
import Derived.Test.YtakoklldmdbphaaQuad
import Derived.StillTailTactics
set_option linter.unusedVariables false
namespace Go.Proofs.Ytakoklldmdbphaa
open Go.RowKit
/-- The loops of QuadCounts: n fours are counted. -/
def QcRel (w w2 : World) (g W H : Nat) (f : Nat → Bool) (n : Nat) (wr : World) : Prop := TriAt wr g (qcs W H f n) ∧ Since w wr ∧ Since w2 wr
def QcIn (w w2 : World) (g W H : Nat) (f : Nat → Bool) (r : Nat) (i : Value) (wr : World) : Prop := ∃ (s : Nat) (e : Int), s ≤ W + 1 ∧ i = .int .i64 e ∧ e = (s : Int) - 1 ∧ QcRel w w2 g W H f (r * (W + 1) + s) wr
def QcOut (w w2 : World) (g W H : Nat) (f : Nat → Bool) (i : Value) (wr : World) : Prop := ∃ (r : Nat) (d : Int), r ≤ H + 1 ∧ i = .int .i64 d ∧ d = (r : Int) - 1 ∧ QcRel w w2 g W H f (r * (W + 1)) wr
set_option maxRecDepth 100000 in
set_option maxHeartbeats 4000000 in
theorem quadCounts_any (p : Option Addr) (c : Nat) (ss : List ByteArray) (w : World) (hn : ss.length ≤ 1048576) (hs : ∀ s ∈ ss, s.size ≤ 1048576) (hr : Rd w p ss.length (strAt ss)) :
    Calls Try.prog 23 #[.agg #[.slice p ss.length c]] w fun e w' => ∃ v, e = .returned (.tuple #[v, .bool (okPic ss)]) ∧ OwnInts w.heap.size w' v (quadL ss) ∧ Below w.heap.size w w' := by
  have hmk : ∀ w, (Instr.makeSlice 37 (.int .i64 3) (.int .i64 3)).run Try.prog w = .ok (.slice (some ⟨w.heap.size, 0, none⟩) 3 3) (w.alloc (.cells (madeCells #[.int .i64 0] 3) 2)) := fun w => run_make_row' (P := Try.prog) 37 2 (.int .i64 0) 8 Try.underlying37 info_i64 rfl .i64 .i64 3 (by omega) (by omega) w
  go_enter Try.func23, Try.ntmps23
  go_wp2_with fail
  refine (imageOf_any p c ss _ hn hs (hr.alloc _)).mono ?_
  rintro e w1 ⟨hb, ⟨h, rfl⟩ | ⟨h, m, g0, rfl, hI, hm, hg⟩⟩
  · have hb1 := below_a1 hb
    have H := Lib.hid h; clear h
    go_wp2
    go_ret2
    exact ⟨_, by rw [H.out]; rfl, by rw [quadL, H.out]; exact OwnInts.nil _ _, hb1⟩
  · have S : Since w w1 := ⟨below_a1 hb⟩
    have hd := okPic_dims h
    obtain ⟨hd1, hd2, hd3, hd4⟩ := hd
    have hm9 := mul_289 hd4 hd2
    have hq : quadL ss = tri (qcs (wid ss) ss.length (bits ss) ((ss.length + 1) * (wid ss + 1))) := by rw [quadL, if_pos h]
    have c2 := fun x y w h => get_any m g0 (wid ss) ss.length (bits ss) x y w h
    obtain ⟨W, eW⟩ : ∃ W, wid ss = W := ⟨_, rfl⟩
    obtain ⟨H, eH⟩ : ∃ H, ss.length = H := ⟨_, rfl⟩
    obtain ⟨f, ef⟩ : ∃ f, bits ss = f := ⟨_, rfl⟩
    rw [eW, eH, ef] at hI
    rw [eW, eH] at hm9
    rw [eW, eH, ef] at hq
    rw [eW] at hd3 hd4
    rw [eH] at hd1 hd2
    simp only [eW, eH, ef] at c2
    have hIl := hI.lt
    have hok := h
    have hs1 : w.heap.size ≤ w1.heap.size := S.size
    have T := TriAt.new w1
    replace S := S.alloc (.cells (madeCells #[.int .i64 0] 3) 2)
    have S2 := (Since.refl w1).alloc (.cells (madeCells #[.int .i64 0] 3) 2)
    clear hb hm hg h
    have Hok := Lib.hid hok; clear hok
    have C2 := Lib.hid c2; clear c2
    have Hq := Lib.hid hq; clear hq
    have EW := Lib.hid eW; clear eW
    have EH := Lib.hid eH; clear eH
    have Ef := Lib.hid ef; clear ef
    have Hm9 := Lib.hid hm9; clear hm9
    go_wp2
    go_loopw [7] (fun i wr => QcOut w w1 w1.heap.size W H f i wr) (fun i _ => (H - intOf i).toNat)
    case atStart => unfold QcOut; exact ⟨0, -1, by omega, rfl, by omega, by rw [Nat.zero_mul]; exact T, S, S2⟩
    case round =>
      clear T S S2
      obtain ⟨r, d, hr1, rfl, hd, T, S, S2⟩ := hrel
      have hd5 : d ≤ (r : Int) - 1 := by omega
      have hd6 : (r : Int) - 1 ≤ d := by omega
      have Hd := Lib.hid hd; clear hd
      have I := hI.bl S2.below
      have i1 := I.c1
      by_cases hrH : r < H + 1
      · have tH : decide (d < (H : Int)) = true := by rw [decide_eq_true_eq]; omega
        go_wp2
        go_loopw [8] (fun i wr => QcIn w w1 w1.heap.size W H f r i wr) (fun i _ => (W - intOf i).toNat)
        case atStart => unfold QcIn; exact ⟨0, -1, by omega, rfl, by omega, T, S, S2⟩
        case round =>
          clear T S S2 I i1
          obtain ⟨s, e, hsl, rfl, he, T, S, S2⟩ := hrel
          have he5 : e ≤ (s : Int) - 1 := by omega
          have he6 : (s : Int) - 1 ≤ e := by omega
          have He := Lib.hid he; clear he
          have I := hI.bl S2.below
          have i0 := I.c0
          by_cases hsW : s < W + 1
          · have hlt := at_lt (W := W + 1) (H := H + 1) (x := s) (y := r) hsW hrH
            rw [Nat.mul_comm (W + 1)] at hlt
            have hsu := qcs_at (W := W) (H := H) (f := f) (r := r) hsW e d He.out Hd.out
            have hbd := qcs_bd W H f (r * (W + 1) + s)
            have hN : r * (W + 1) + s ≤ 289 := by have := Hm9.out; omega
            clear hlt
            have tW : decide (e < (W : Int)) = true := by rw [decide_eq_true_eq]; omega
            generalize qcs W H f (r * (W + 1) + s) = Q at *
            obtain ⟨Q1, eQ1⟩ : ∃ Q1, qcs W H f (r * (W + 1) + (s + 1)) = Q1 := ⟨_, rfl⟩
            rw [eQ1] at hsu
            have ca := C2.out e d
            have cb := C2.out (e + 1) d
            have cc := C2.out e (d + 1)
            have cd := C2.out (e + 1) (d + 1)
            generalize px W H f e d = a at *
            generalize px W H f (e + 1) d = b at *
            generalize px W H f e (d + 1) = c' at *
            generalize px W H f (e + 1) (d + 1) = d' at *
            obtain ⟨q0, q1, q2⟩ := Q
            dsimp only at hbd
            generalize r * (W + 1) + s = N at *
            obtain ⟨⟨q00, q01⟩, ⟨q10, q11⟩, q20, q21⟩ := hbd
            have Hsu := Lib.hid hsu; clear hsu
            have EQ1 := Lib.hid eQ1; clear eQ1
            have Ca := Lib.hid ca; clear ca
            have Cb := Lib.hid cb; clear cb
            have Cc := Lib.hid cc; clear cc
            have Cd := Lib.hid cd; clear cd
            go_wp2_with fail
            with_reducible (refine (Ca.out _ I).mono ?_)
            rintro e1 w3 ⟨rfl, n1, rfl⟩
            go_wp2_with fail
            with_reducible (refine (Cb.out _ (I.drewN _)).mono ?_)
            rintro e1 w3 ⟨rfl, n2, rfl⟩
            go_wp2_with fail
            with_reducible (refine (Cc.out _ (I.drewN _)).mono ?_)
            rintro e1 w3 ⟨rfl, n3, rfl⟩
            go_wp2_with fail
            with_reducible (refine (Cd.out _ (I.drewN _)).mono ?_)
            rintro e1 w3 ⟨rfl, n4, rfl⟩
            have D1 := b1_bd a
            have D2 := b1_bd b
            have D3 := b1_bd c'
            have D4 := b1_bd d'
            have h4 := qN4 a b c' d'
            have o1 := fun w => oneIf_b1 a w
            have o2 := fun w => oneIf_b1 b w
            have o3 := fun w => oneIf_b1 c' w
            have o4 := fun w => oneIf_b1 d' w
            generalize b1 a = v1 at *
            generalize b1 b = v2 at *
            generalize b1 c' = v3 at *
            generalize b1 d' = v4 at *
            obtain ⟨D10, D11⟩ := D1
            obtain ⟨D20, D21⟩ := D2
            obtain ⟨D30, D31⟩ := D3
            obtain ⟨D40, D41⟩ := D4
            replace T := T.bl (bl_drewN _ (n1 + n2 + n3 + n4))
            replace S := S.bl (bl_drewN _ (n1 + n2 + n3 + n4))
            replace S2 := S2.bl (bl_drewN _ (n1 + n2 + n3 + n4))
            have H4 := Lib.hid h4; clear h4
            have O1 := Lib.hid o1; clear o1
            have O2 := Lib.hid o2; clear o2
            have O3 := Lib.hid o3; clear o3
            have O4 := Lib.hid o4; clear o4
            clear I i0 Ca Cb Cc Cd
            go_wp2_with fail
            with_reducible (refine (O1.out _).mono ?_)
            rintro e1 w3 ⟨rfl, rfl⟩
            go_wp2_with fail
            with_reducible (refine (O2.out _).mono ?_)
            rintro e1 w3 ⟨rfl, rfl⟩
            go_wp2_with fail
            with_reducible (refine (O3.out _).mono ?_)
            rintro e1 w3 ⟨rfl, rfl⟩
            go_wp2_with fail
            with_reducible (refine (O4.out _).mono ?_)
            rintro e1 w3 ⟨rfl, rfl⟩
            generalize wr.drewN (n1 + n2 + n3 + n4) = wb at *
            obtain ⟨t0, t1, t2, f0, f1, f2⟩ := T.cells
            dsimp only at t0 t1 t2
            clear O1 O2 O3 O4
            by_cases e1 : v1 + v2 + v3 + v4 = 1
            · have g1 : (v1 + v2 + v3 + v4 == 1) = true := by simp [e1]
              have hq1 : Q1 = (q0 + 1, q1, q2) := by rw [Hsu.out, qstep1 (by rw [H4.out]; exact e1)]
              have T1 := T.s0 (q0 + 1)
              have S1 := S.setc (p := ⟨w1.heap.size, 0, none⟩) hs1 (.int .i64 (q0 + 1))
              have S3 := S2.setc (p := ⟨w1.heap.size, 0, none⟩) (Nat.le_refl _) (.int .i64 (q0 + 1))
              have Hq1 := Lib.hid hq1; clear hq1
              clear e1
              go_wp2
              go_roundw
              case rel => unfold QcIn QcRel; exact ⟨s + 1, e + 1, by omega, rfl, by have := He.out; omega, by rw [EQ1.out, Hq1.out]; exact T1, S1, S3⟩
              case measure => simp [intOf]; omega
            · have g1 : (v1 + v2 + v3 + v4 == 1) = false := by simp [e1]
              by_cases e2 : v1 + v2 + v3 + v4 = 2
              · have g2 : (v1 + v2 + v3 + v4 == 2) = true := by simp [e2]
                cases hv : (a == d')
                · have hq1 : Q1 = (q0, q1, q2) := by rw [Hsu.out, qstep2' hv (by rw [H4.out]; exact e2)]
                  have o6 := fun w => (oneIf_b1 (a == d') w).mono (fun e w' q => (⟨q.1.trans (by rw [hv]; rfl), q.2.symm⟩ : e = .returned (.int .i64 0) ∧ w' = w))
                  have Td := T.bl (bl_drew wb)
                  have T1 := Td.s2 (q2)
                  have S1 := (S.bl (bl_drew wb)).setc (p := ⟨w1.heap.size, 2, none⟩) hs1 (.int .i64 (q2))
                  have S3 := (S2.bl (bl_drew wb)).setc (p := ⟨w1.heap.size, 2, none⟩) (Nat.le_refl _) (.int .i64 (q2))
                  have Hq1 := Lib.hid hq1; clear hq1
                  have O6 := Lib.hid o6; clear o6
                  have Hv := Lib.hid hv; clear hv
                  clear e1 e2
                  go_wp2_with fail
                  go_still_tail 9, (by kernel_rfl)
                  still_call (O6.out _)
                  repeat still_step
                  refine wpStill_nil ?_
                  change wpList _ _ _ _ _ wb.drew
                  go_wp2
                  go_roundw
                  case rel => unfold QcIn QcRel; exact ⟨s + 1, e + 1, by omega, rfl, by have := He.out; omega, by rw [EQ1.out, Hq1.out]; exact T1, S1, S3⟩
                  case measure => simp [intOf]; omega
                · have hq1 : Q1 = (q0, q1, q2 + 1) := by rw [Hsu.out, qstep2 (by rw [H4.out]; exact e2) hv]
                  have o6 := fun w => (oneIf_b1 (a == d') w).mono (fun e w' q => (⟨q.1.trans (by rw [hv]; rfl), q.2.symm⟩ : e = .returned (.int .i64 1) ∧ w' = w))
                  have Td := T.bl (bl_drew wb)
                  have T1 := Td.s2 (q2 + 1)
                  have S1 := (S.bl (bl_drew wb)).setc (p := ⟨w1.heap.size, 2, none⟩) hs1 (.int .i64 (q2 + 1))
                  have S3 := (S2.bl (bl_drew wb)).setc (p := ⟨w1.heap.size, 2, none⟩) (Nat.le_refl _) (.int .i64 (q2 + 1))
                  have Hq1 := Lib.hid hq1; clear hq1
                  have O6 := Lib.hid o6; clear o6
                  have Hv := Lib.hid hv; clear hv
                  clear e1 e2
                  go_wp2_with fail
                  go_still_tail 9, (by kernel_rfl)
                  still_call (O6.out _)
                  repeat still_step
                  refine wpStill_nil ?_
                  change wpList _ _ _ _ _ wb.drew
                  go_wp2
                  go_roundw
                  case rel => unfold QcIn QcRel; exact ⟨s + 1, e + 1, by omega, rfl, by have := He.out; omega, by rw [EQ1.out, Hq1.out]; exact T1, S1, S3⟩
                  case measure => simp [intOf]; omega
              · have g2 : (v1 + v2 + v3 + v4 == 2) = false := by simp [e2]
                by_cases e3 : v1 + v2 + v3 + v4 = 3
                · have g3 : (v1 + v2 + v3 + v4 == 3) = true := by simp [e3]
                  have hq1 : Q1 = (q0, q1 + 1, q2) := by rw [Hsu.out, qstep3 (by rw [H4.out]; exact e3)]
                  have T1 := T.s1 (q1 + 1)
                  have S1 := S.setc (p := ⟨w1.heap.size, 1, none⟩) hs1 (.int .i64 (q1 + 1))
                  have S3 := S2.setc (p := ⟨w1.heap.size, 1, none⟩) (Nat.le_refl _) (.int .i64 (q1 + 1))
                  have Hq1 := Lib.hid hq1; clear hq1
                  clear e1 e2 e3
                  go_wp2
                  go_roundw
                  case rel => unfold QcIn QcRel; exact ⟨s + 1, e + 1, by omega, rfl, by have := He.out; omega, by rw [EQ1.out, Hq1.out]; exact T1, S1, S3⟩
                  case measure => simp [intOf]; omega
                · have g3 : (v1 + v2 + v3 + v4 == 3) = false := by simp [e3]
                  have hq1 : Q1 = (q0, q1, q2) := by rw [Hsu.out, qstep0 (by rw [H4.out]; exact e1) (by rw [H4.out]; exact e2) (by rw [H4.out]; exact e3)]
                  have Hq1 := Lib.hid hq1; clear hq1
                  clear e1 e2 e3
                  go_wp2
                  go_roundw
                  case rel => unfold QcIn QcRel; exact ⟨s + 1, e + 1, by omega, rfl, by have := He.out; omega, by rw [EQ1.out, Hq1.out]; exact T, S, S2⟩
                  case measure => simp [intOf]; omega
          · obtain rfl : s = W + 1 := by omega
            have e1 : r * (W + 1) + (W + 1) = (r + 1) * (W + 1) := by rw [Nat.add_mul, Nat.one_mul]
            rw [e1] at T
            have E1 := Lib.hid e1; clear e1
            go_wp2
            go_roundw
            case rel => unfold QcOut QcRel; exact ⟨r + 1, d + 1, by omega, rfl, by have := Hd.out; omega, T, S, S2⟩
            case measure => simp [intOf]; omega
      · obtain rfl : r = H + 1 := by omega
        have O := T.own (Nat.le_refl _)
        go_wp2
        go_ret2
        exact ⟨_, by rw [Hok.out]; rfl, by rw [Hq.out]; exact O.mono hs1, S.below⟩
end Go.Proofs.Ytakoklldmdbphaa
