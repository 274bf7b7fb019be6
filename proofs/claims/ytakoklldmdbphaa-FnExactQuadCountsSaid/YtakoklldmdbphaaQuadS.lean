/- Contract of the reference's QuadCounts. -/
import Derived.Test.YtakoklldmdbphaaQuad
set_option linter.unusedVariables false
namespace Go.Proofs.Ytakoklldmdbphaa
open Go.RowKit
/-- The loops of QuadCounts: n fours are counted. -/
def QsRel (w : World) (p : Option Addr) (c : Nat) (ss : List ByteArray) (G g W H : Nat) (f : Nat → Bool) (n : Nat) (wr : World) : Prop := TriAt wr g (qcs W H f n) ∧ PicAt wr G p c ss ∧ Since w wr
def QsIn (w : World) (p : Option Addr) (c : Nat) (ss : List ByteArray) (G g W H : Nat) (f : Nat → Bool) (r : Nat) (i : Value) (wr : World) : Prop := ∃ (s : Nat) (e : Int), s ≤ W + 1 ∧ i = .int .i64 e ∧ e = (s : Int) - 1 ∧ QsRel w p c ss G g W H f (r * (W + 1) + s) wr
def QsOut (w : World) (p : Option Addr) (c : Nat) (ss : List ByteArray) (G g W H : Nat) (f : Nat → Bool) (i : Value) (wr : World) : Prop := ∃ (r : Nat) (d : Int), r ≤ H + 1 ∧ i = .int .i64 d ∧ d = (r : Int) - 1 ∧ QsRel w p c ss G g W H f (r * (W + 1)) wr
theorem PicAt.off {w : World} {a : Nat} {p : Option Addr} {c : Nat} {ss : List ByteArray} (h : PicAt w a p c ss) {g : Nat} (hg : w.heap.size ≤ g) : a ≠ g ∧ ∀ b o, p = some ⟨b, o, none⟩ → b ≠ g := by
  have h1 := h.lt
  have h2 := okPic_dims h.ok
  refine ⟨by omega, fun b o hp => ?_⟩
  obtain ⟨b', o', hp', hlt, _⟩ := h.rd.at (k := 0) (by omega)
  rw [hp] at hp'
  simp only [Option.some.injEq, Addr.mk.injEq] at hp'
  omega
theorem PicAt.oth {w : World} {a : Nat} {p : Option Addr} {c : Nat} {ss : List ByteArray} (h : PicAt w a p c ss) {q : Addr} (hq : a ≠ q.block ∧ ∀ b o, p = some ⟨b, o, none⟩ → b ≠ q.block) (v : Value) : PicAt (w.setCell q v) a p c ss := by
  refine ⟨h.ok, (World.cell?_setCell_other _ _ _ _ (by rintro rfl; exact hq.1 rfl)).trans h.box, ?_⟩
  rcases h.rd with h0 | ⟨b, o, hp, hc⟩
  · exact .inl h0
  · exact .inr ⟨b, o, hp, fun i hi => (World.cell?_setCell_other _ _ _ _ (by rintro rfl; exact hq.2 b o hp rfl)).trans (hc i hi)⟩
set_option maxRecDepth 100000 in
set_option maxHeartbeats 4000000 in
theorem sQuadCounts_any (p : Option Addr) (c : Nat) (ss : List ByteArray) (w : World) (hn : ss.length ≤ 1048576) (hs : ∀ s ∈ ss, s.size ≤ 1048576) (hr : Rd w p ss.length (strAt ss)) :
    Calls Try.prog 22 #[.agg #[.slice p ss.length c]] w fun e w' => ∃ v, e = .returned (.tuple #[v, .bool (okPic ss)]) ∧ OwnInts w.heap.size w' v (quadL ss) ∧ Below w.heap.size w w' := by
  have c0 := fun a w h1 h2 => l01Is_any a p c ss w hn hs h1 h2
  cases hok : okPic ss
  · rw [hok] at c0
    have hv : quadL ss = [] := by rw [quadL, hok]; rfl
    rw [hv]
    have C0 := Lib.hid c0; clear c0
    have Hok := Lib.hid hok; clear hok
    have Hv := Lib.hid hv; clear hv
    go_enter Try.func22, Try.ntmps22
    go_wp2_with fail
    refine (C0.out w.heap.size _ (by simp) (hr.alloc _)).mono ?_
    rintro e w1 ⟨rfl, n, rfl⟩
    go_wp2
    go_ret2
    exact ⟨_, rfl, OwnInts.nil _ _, by (repeat' (first | exact Below.refl _ _ | assumption | refine Below.drew ?_ | refine below_drewN ?_ _ | refine Below.alloc ?_ ?_ _ | refine Below.setCell ?_ ?_ _ | go_size))⟩
  · rw [hok] at c0
    have hd := okPic_dims hok
    obtain ⟨hd1, hd2, hd3, hd4⟩ := hd
    have hm9 := mul_289 hd4 hd2
    have hq : quadL ss = tri (qcs (wid ss) ss.length (bits ss) ((ss.length + 1) * (wid ss + 1))) := by rw [quadL, if_pos hok]
    have P0 : PicAt (w.alloc (.cells #[.slice p ss.length c] 30)) w.heap.size p c ss := ⟨hok, by simp, hr.alloc _⟩
    have S0 := (Since.refl w).alloc (.cells #[.slice p ss.length c] 30)
    have k2 := fun w' h => l01Width_any w.heap.size p c ss w' h
    have k3 := fun w' h => l01Height_any w.heap.size p c ss w' h
    have k4 := fun x y w' h => l01Black_any w.heap.size p c ss x y w' h
    obtain ⟨W, eW⟩ : ∃ W, wid ss = W := ⟨_, rfl⟩
    obtain ⟨H, eH⟩ : ∃ H, ss.length = H := ⟨_, rfl⟩
    obtain ⟨f, ef⟩ : ∃ f, bits ss = f := ⟨_, rfl⟩
    rw [eW, eH] at hm9
    rw [eW, eH, ef] at hq
    rw [eW] at hd3 hd4
    rw [eH] at hd1 hd2
    simp only [eW, eH, ef] at k2 k3 k4
    have hmk : ∀ w, (Instr.makeSlice 37 (.int .i64 3) (.int .i64 3)).run Try.prog w = .ok (.slice (some ⟨w.heap.size, 0, none⟩) 3 3) (w.alloc (.cells (madeCells #[.int .i64 0] 3) 2)) := fun w => run_make_row' (P := Try.prog) 37 2 (.int .i64 0) 8 Try.underlying37 info_i64 rfl .i64 .i64 3 (by omega) (by omega) w
    have C0 := Lib.hid c0; clear c0
    have Hok := Lib.hid hok; clear hok
    have K2 := Lib.hid k2; clear k2
    have K3 := Lib.hid k3; clear k3
    have K4 := Lib.hid k4; clear k4
    have Hq := Lib.hid hq; clear hq
    have Hm9 := Lib.hid hm9; clear hm9
    have EW := Lib.hid eW; clear eW
    have EH := Lib.hid eH; clear eH
    have Ef := Lib.hid ef; clear ef
    go_enter Try.func22, Try.ntmps22
    go_wp2_with fail
    refine (C0.out w.heap.size _ P0.box P0.rd).mono ?_
    rintro e w1 ⟨rfl, n, rfl⟩
    replace P0 := P0.drewN n
    replace S0 := S0.bl (bl_drewN _ n)
    have hlt0 : w.heap.size < ((w.alloc (.cells #[.slice p ss.length c] 30)).drewN n).heap.size := P0.lt
    generalize (w.alloc (.cells #[.slice p ss.length c] 30)).drewN n = w0 at *
    have T := TriAt.new w0
    have P := P0.bl (bl_alloc w0 (.cells (madeCells #[.int .i64 0] 3) 2))
    have S := S0.alloc (.cells (madeCells #[.int .i64 0] 3) 2)
    have hPb := P0.off (g := w0.heap.size) (Nat.le_refl _)
    have hG : w.heap.size ≠ w0.heap.size := by omega
    have hwg : w.heap.size ≤ w0.heap.size := by omega
    clear P0 S0
    go_wp2
    go_loopw [5] (fun i wr => QsOut w p c ss w.heap.size w0.heap.size W H f i wr) (fun i _ => (H - intOf i).toNat)
    case atStart => unfold QsOut; exact ⟨0, -1, by omega, rfl, by omega, by rw [Nat.zero_mul]; exact T, P, S⟩
    case round =>
      clear T S P
      obtain ⟨r, d, hr1, rfl, hd, T, P, S⟩ := hrel
      have hd5 : d ≤ (r : Int) - 1 := by omega
      have hd6 : (r : Int) - 1 ≤ d := by omega
      have Hd := Lib.hid hd; clear hd
      by_cases hrH : r < H + 1
      · have tH : decide (d < (H : Int)) = true := by rw [decide_eq_true_eq]; omega
        go_wp2_with fail
        with_reducible (refine (K3.out _ P).mono ?_)
        rintro e1 w3 ⟨rfl, rfl⟩
        go_wp2_with fail
        go_loopw [6] (fun i wr => QsIn w p c ss w.heap.size w0.heap.size W H f r i wr) (fun i _ => (W - intOf i).toNat)
        case atStart => unfold QsIn; exact ⟨0, -1, by omega, rfl, by omega, T, P, S⟩
        case round =>
          clear T S P
          obtain ⟨s, e, hsl, rfl, he, T, P, S⟩ := hrel
          have he5 : e ≤ (s : Int) - 1 := by omega
          have he6 : (s : Int) - 1 ≤ e := by omega
          have He := Lib.hid he; clear he
          by_cases hsW : s < W + 1
          · have hlt := at_lt (W := W + 1) (H := H + 1) (x := s) (y := r) hsW hrH
            rw [Nat.mul_comm (W + 1)] at hlt
            have hsu := qcs_at (W := W) (H := H) (f := f) (r := r) hsW e d He.out Hd.out
            have hbd := qcs_bd W H f (r * (W + 1) + s)
            have hN : r * (W + 1) + s ≤ 289 := by have := Hm9.out; omega
            clear hlt
            have tW : decide (e < (W : Int)) = true := by rw [decide_eq_true_eq]; omega
            generalize qcs W H f (r * (W + 1) + s) = Q at *
            obtain ⟨Q1, eQ1⟩ : ∃ Q1, qcs W H f (r * (W + 1) + (s + 1)) = Q1 := ⟨_, rfl⟩
            rw [eQ1] at hsu
            have ca := K4.out e d
            have cb := K4.out (e + 1) d
            have cc := K4.out e (d + 1)
            have cd := K4.out (e + 1) (d + 1)
            generalize px W H f e d = a at *
            generalize px W H f (e + 1) d = b at *
            generalize px W H f e (d + 1) = c' at *
            generalize px W H f (e + 1) (d + 1) = d' at *
            obtain ⟨q0, q1, q2⟩ := Q
            dsimp only at hbd
            generalize r * (W + 1) + s = N at *
            obtain ⟨⟨q00, q01⟩, ⟨q10, q11⟩, q20, q21⟩ := hbd
            have Hsu := Lib.hid hsu; clear hsu
            have EQ1 := Lib.hid eQ1; clear eQ1
            have Ca := Lib.hid ca; clear ca
            have Cb := Lib.hid cb; clear cb
            have Cc := Lib.hid cc; clear cc
            have Cd := Lib.hid cd; clear cd
            go_wp2_with fail
            with_reducible (refine (K2.out _ P).mono ?_)
            rintro e1 w3 ⟨rfl, rfl⟩
            go_wp2_with fail
            with_reducible (refine (Ca.out _ P).mono ?_)
            rintro e1 w3 ⟨rfl, n1, rfl⟩
            go_wp2_with fail
            with_reducible (refine (Cb.out _ (P.drewN _)).mono ?_)
            rintro e1 w3 ⟨rfl, n2, rfl⟩
            go_wp2_with fail
            with_reducible (refine (Cc.out _ (P.drewN _)).mono ?_)
            rintro e1 w3 ⟨rfl, n3, rfl⟩
            go_wp2_with fail
            with_reducible (refine (Cd.out _ (P.drewN _)).mono ?_)
            rintro e1 w3 ⟨rfl, n4, rfl⟩
            replace T := T.bl (bl_drewN _ (n1 + n2 + n3 + n4))
            replace S := S.bl (bl_drewN _ (n1 + n2 + n3 + n4))
            replace P := P.bl (bl_drewN _ (n1 + n2 + n3 + n4))
            have hz : (wr.drewN (n1 + n2 + n3 + n4)).heap.size = wr.heap.size := by simp
            have B := Blk.new (wr.drewN (n1 + n2 + n3 + n4)) #[.bool a, .bool b, .bool c', .bool d'] 4
            replace T := T.bl (bl_alloc (wr.drewN (n1 + n2 + n3 + n4)) (.cells #[.bool a, .bool b, .bool c', .bool d'] 4))
            replace P := P.bl (bl_alloc (wr.drewN (n1 + n2 + n3 + n4)) (.cells #[.bool a, .bool b, .bool c', .bool d'] 4))
            replace S := S.alloc (.cells #[.bool a, .bool b, .bool c', .bool d'] 4)
            rw [hz] at B
            obtain ⟨wo, ewo⟩ : ∃ wo : World, wo = wr := ⟨_, rfl⟩
            subst ewo
            clear Ca Cb Cc Cd hz
            go_wp2
            go_loopw [11, 49] (fun v i wr => ∃ j : Nat, j ≤ 4 ∧ i = .int .i64 j ∧ v = .int .i64 (qN a b c' d' j) ∧ TriAt wr w0.heap.size (q0, q1, q2) ∧ PicAt wr w.heap.size p c ss ∧ Since w wr ∧ Blk wr wo.heap.size #[.bool a, .bool b, .bool c', .bool d'] 4) (fun _ i _ => 4 - (intOf i).toNat)
            case atStart => exact ⟨0, by omega, rfl, rfl, T, P, S, B⟩
            case round =>
              clear T P S B
              obtain ⟨j, hj, rfl, rfl, T, P, S, B⟩ := hrel
              by_cases hj4 : j < 4
              · have hc := B.cell j (qA_at a b c' d' j hj4)
                have hsj : qN a b c' d' (j + 1) = qN a b c' d' j + b1 (qA a b c' d' j) := rfl
                have hbj := qN_bd a b c' d' j
                generalize qA a b c' d' j = v at *
                generalize qN a b c' d' j = u at *
                obtain ⟨hbj0, hbj1⟩ := hbj
                have hj0 : (0 : Int) ≤ (j : Int) := Int.natCast_nonneg _
                have Hsj := Lib.hid hsj; clear hsj
                cases v
                · go_wp2
                  go_roundw
                  case rel => exact ⟨j + 1, by omega, by go_num, val_int (by rw [Hsj.out]; simp [b1]), T, P, S, B⟩
                  case measure => simp [intOf]; omega
                · go_wp2
                  go_roundw
                  case rel => exact ⟨j + 1, by omega, by go_num, val_int (by rw [Hsj.out]; simp [b1]), T, P, S, B⟩
                  case measure => simp [intOf]; omega
              · obtain rfl : j = 4 := by omega
                obtain ⟨t0, t1, t2, f0, f1, f2⟩ := T.cells
                dsimp only at t0 t1 t2
                obtain ⟨V, eV⟩ : ∃ V, qN a b c' d' 4 = V := ⟨_, rfl⟩
                have EV := Lib.hid eV; clear eV
                by_cases e1 : qN a b c' d' 4 = 1
                · have g1 : (qN a b c' d' 4 == 1) = true := by simp [e1]
                  have hq1 : Q1 = (q0 + 1, q1, q2) := by rw [Hsu.out, qstep1 e1]
                  have T1 := T.s0 (q0 + 1)
                  have P1 := PicAt.oth P (q := ⟨w0.heap.size, 0, none⟩) hPb (.int .i64 (q0 + 1))
                  have S1 := S.setc (p := ⟨w0.heap.size, 0, none⟩) hwg (.int .i64 (q0 + 1))
                  have Hq1 := Lib.hid hq1; clear hq1
                  clear e1
                  go_wp2
                  go_roundw
                  case rel => unfold QsIn QsRel; exact ⟨s + 1, e + 1, by omega, rfl, by have := He.out; omega, by rw [EQ1.out, Hq1.out]; exact ⟨T1, P1, S1⟩⟩
                  case measure => simp [intOf]; omega
                · have g1 : (qN a b c' d' 4 == 1) = false := by simp [e1]
                  by_cases e3 : qN a b c' d' 4 = 3
                  · have g3 : (qN a b c' d' 4 == 3) = true := by simp [e3]
                    have hq1 : Q1 = (q0, q1 + 1, q2) := by rw [Hsu.out, qstep3 e3]
                    have T1 := T.s1 (q1 + 1)
                    have P1 := PicAt.oth P (q := ⟨w0.heap.size, 1, none⟩) hPb (.int .i64 (q1 + 1))
                    have S1 := S.setc (p := ⟨w0.heap.size, 1, none⟩) hwg (.int .i64 (q1 + 1))
                    have Hq1 := Lib.hid hq1; clear hq1
                    clear e1 e3
                    go_wp2
                    go_roundw
                    case rel => unfold QsIn QsRel; exact ⟨s + 1, e + 1, by omega, rfl, by have := He.out; omega, by rw [EQ1.out, Hq1.out]; exact ⟨T1, P1, S1⟩⟩
                    case measure => simp [intOf]; omega
                  · have g3 : (qN a b c' d' 4 == 3) = false := by simp [e3]
                    by_cases e2 : qN a b c' d' 4 = 2
                    · have g2 : (qN a b c' d' 4 == 2) = true := by simp [e2]
                      cases hv : (a == d')
                      · have hq1 : Q1 = (q0, q1, q2) := by rw [Hsu.out, qstep2' hv e2]
                        have Hq1 := Lib.hid hq1; clear hq1
                        clear e1 e2 e3
                        go_wp2
                        go_roundw
                        case rel => unfold QsIn QsRel; exact ⟨s + 1, e + 1, by omega, rfl, by have := He.out; omega, by rw [EQ1.out, Hq1.out]; exact ⟨T, P, S⟩⟩
                        case measure => simp [intOf]; omega
                      · have hq1 : Q1 = (q0, q1, q2 + 1) := by rw [Hsu.out, qstep2 e2 hv]
                        have T1 := T.s2 (q2 + 1)
                        have P1 := PicAt.oth P (q := ⟨w0.heap.size, 2, none⟩) hPb (.int .i64 (q2 + 1))
                        have S1 := S.setc (p := ⟨w0.heap.size, 2, none⟩) hwg (.int .i64 (q2 + 1))
                        have Hq1 := Lib.hid hq1; clear hq1
                        clear e1 e2 e3
                        go_wp2
                        go_roundw
                        case rel => unfold QsIn QsRel; exact ⟨s + 1, e + 1, by omega, rfl, by have := He.out; omega, by rw [EQ1.out, Hq1.out]; exact ⟨T1, P1, S1⟩⟩
                        case measure => simp [intOf]; omega
                    · have g2 : (qN a b c' d' 4 == 2) = false := by simp [e2]
                      have hq1 : Q1 = (q0, q1, q2) := by rw [Hsu.out, qstep0 e1 e2 e3]
                      have Hq1 := Lib.hid hq1; clear hq1
                      clear e1 e2 e3
                      go_wp2
                      go_roundw
                      case rel => unfold QsIn QsRel; exact ⟨s + 1, e + 1, by omega, rfl, by have := He.out; omega, by rw [EQ1.out, Hq1.out]; exact ⟨T, P, S⟩⟩
                      case measure => simp [intOf]; omega
          · obtain rfl : s = W + 1 := by omega
            have e1 : r * (W + 1) + (W + 1) = (r + 1) * (W + 1) := by rw [Nat.add_mul, Nat.one_mul]
            rw [e1] at T
            have tW : decide (e < (W : Int)) = false := by rw [decide_eq_false_iff_not]; omega
            have E1 := Lib.hid e1; clear e1
            go_wp2_with fail
            with_reducible (refine (K2.out _ P).mono ?_)
            rintro e1 w3 ⟨rfl, rfl⟩
            go_wp2
            go_roundw
            case rel => unfold QsOut QsRel; exact ⟨r + 1, d + 1, by omega, rfl, by have := Hd.out; omega, T, P, S⟩
            case measure => simp [intOf]; omega
      · obtain rfl : r = H + 1 := by omega
        have O := T.own (Nat.le_refl _)
        have tH : decide (d < (H : Int)) = false := by rw [decide_eq_false_iff_not]; omega
        go_wp2_with fail
        with_reducible (refine (K3.out _ P).mono ?_)
        rintro e1 w3 ⟨rfl, rfl⟩
        go_wp2
        go_ret2
        exact ⟨_, rfl, by rw [Hq.out]; exact O.mono hwg, S.below⟩
end Go.Proofs.Ytakoklldmdbphaa
