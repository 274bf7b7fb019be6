/- Contracts of the reference's l02In, LeafAt. -/
import Derived.Test.YtnenogpagkepfaaTreeS8
set_option linter.unusedVariables false
set_option linter.unusedSimpArgs false
namespace Go.Proofs.Ytnenogpagkepfaa
open Go.RowKit

set_option maxHeartbeats 1000000 in
theorem l02In_any (X Y S B : Int) (A : ByteArray) (x y : Int) (w : World) (hX : 0 ≤ X ∧ X ≤ 100) (hY : 0 ≤ Y ∧ Y ≤ 100) (hS : 0 ≤ S ∧ S ≤ 100) :
    Calls Try.prog 64 #[.agg #[.int .i64 X, .int .i64 Y, .int .i64 S, .int .i64 B, .string A], .int .i64 x, .int .i64 y] w fun e w' => e = .returned (.bool (inB x X (X + S - 1) && inB y Y (Y + S - 1))) ∧ Below w.heap.size w w' := by
  obtain ⟨x1, x2⟩ := hX
  obtain ⟨y1, y2⟩ := hY
  obtain ⟨s1, s2⟩ := hS
  have hb := bl_alloc w (.cells #[.int .i64 X, .int .i64 Y, .int .i64 S, .int .i64 B, .string A] 79)
  have c1 := fun w => l00In_any x X (X + S - 1) w
  have c2 := fun w => l00In_any y Y (Y + S - 1) w
  have e1 : IntKind.i64.wrap (X + S) = X + S := IntWalk.i64_in _ (by omega)
  have e2 : IntKind.i64.wrap (X + S - 1) = X + S - 1 := IntWalk.i64_in _ (by omega)
  have e3 : IntKind.i64.wrap (Y + S) = Y + S := IntWalk.i64_in _ (by omega)
  have e4 : IntKind.i64.wrap (Y + S - 1) = Y + S - 1 := IntWalk.i64_in _ (by omega)
  cases h1 : inB x X (X + S - 1)
  · simp only [h1] at c1
    have C1 := Lib.hid c1; clear c1
    have H1 := Lib.hid h1; clear h1
    clear c2
    go_enter Try.func64, Try.ntmps64
    go_wp2_with fail
    with_reducible (refine (C1.out _).mono ?_)
    rintro e w1 ⟨rfl, rfl⟩
    go_wp2
    go_ret
    exact ⟨rfl, hb⟩
  · simp only [h1] at c1
    cases h2 : inB y Y (Y + S - 1)
    all_goals
      simp only [h2] at c2
      have C1 := Lib.hid c1; clear c1
      have H1 := Lib.hid h1; clear h1
      have C2 := Lib.hid c2; clear c2
      have H2 := Lib.hid h2; clear h2
      go_enter Try.func64, Try.ntmps64
      go_wp2_with fail
      with_reducible (refine (C1.out _).mono ?_)
      rintro e w1 ⟨rfl, rfl⟩
      go_wp2_with fail
      with_reducible (refine (C2.out _).mono ?_)
      rintro e w1 ⟨rfl, rfl⟩
      go_wp2
      go_ret
      exact ⟨rfl, hb⟩
set_option maxRecDepth 100000 in
set_option maxHeartbeats 2000000 in
theorem sLeafAt_any (n : Int) (s : ByteArray) (x y : Int) (w : World) (hs : s.size ≤ maxLen) :
    Calls Try.prog 26 #[.agg #[.int .i64 n, .string s], .int .i64 x, .int .i64 y] w fun e w' => e = .returned (.tuple #[.int .i64 (laI n s x y), .bool (laOk n s x y)]) ∧ Below w.heap.size w w' := by
  have V := TreeVar.new w n s
  have S := (Since.refl w).alloc (.cells #[.int .i64 n, .string s] 26)
  have c0 := l02All_any w.heap.size n s _ V hs
  unfold AllOut at c0
  cases hv : treeV n s
  · obtain ⟨ha, hb⟩ := laOk_no (x := x) (y := y) hv
    rw [ha, hb]
    rw [hv] at c0
    have C0 := Lib.hid c0; clear c0
    have Hv := Lib.hid hv; clear hv
    have Ha := Lib.hid ha; clear ha
    have Hb := Lib.hid hb; clear hb
    clear V
    go_enter Try.func26, Try.ntmps26
    go_wp2_with fail
    with_reducible (refine C0.out.mono ?_)
    rintro e w1 ⟨hb, v, L, rfl, O, hL⟩
    obtain ⟨q, d, rfl⟩ := O.form
    replace S := S.bl hb
    clear hb O hL
    have hlen : (0 : Int) ≤ (L.length : Int) := Int.natCast_nonneg _
    go_wp2
    refine wp_loop_rounds 1 ?_
    rw [rounds_succ]
    go_wp2
    all_goals
      go_ret2
      exact ⟨rfl, S.below⟩
  · rw [hv] at c0
    have lok := treeLv_ok hv
    have hl1 := lok.pos
    have hl2 := lok.len
    have hbd := lok.bd
    have hhit := fun i hi hb hp => laOk_hit (x := x) (y := y) (i := i) hv hi hb hp
    have hmiss := fun hb => laOk_miss (n := n) (s := s) (x := x) (y := y) hb
    obtain ⟨I, eI⟩ : ∃ I, laI n s x y = I := ⟨_, rfl⟩
    obtain ⟨Q, eQ⟩ : ∃ Q, laOk n s x y = Q := ⟨_, rfl⟩
    rw [eI, eQ]
    simp only [eI, eQ] at hhit hmiss
    generalize treeLv n s = LV at *
    have C0 := Lib.hid c0; clear c0
    have Hv := Lib.hid hv; clear hv
    have Hbd := Lib.hid hbd; clear hbd
    have Hhit := Lib.hid hhit; clear hhit
    have Hmiss := Lib.hid hmiss; clear hmiss
    have EI := Lib.hid eI; clear eI
    have EQ := Lib.hid eQ; clear eQ
    clear V lok
    go_enter Try.func26, Try.ntmps26
    go_wp2_with fail
    with_reducible (refine C0.out.mono ?_)
    rintro e w1 ⟨hb, v, L, rfl, O, hL⟩
    have hL2 : L = LV := hL (by trivial)
    subst hL2
    obtain ⟨q, d, rfl⟩ := O.form
    have R := O.rd
    replace S := S.bl hb
    clear hb O hL
    go_wp2
    go_loopw [10] (fun i wr => ∃ j : Nat, j ≤ L.length ∧ i = .int .i64 j ∧ (∀ k, k < j → inLeaf x y (L.getD k noLeaf) = false) ∧ Since w wr ∧ Rd wr q (L.length * 5) (leafAt false L)) (fun i _ => L.length - (intOf i).toNat)
    case atStart => exact ⟨0, Nat.zero_le _, rfl, fun k hk => absurd hk (Nat.not_lt_zero _), S, R⟩
    case round =>
      clear S R
      obtain ⟨j, hj, rfl, hno, S, R⟩ := hrel
      by_cases hlt : j < L.length
      · obtain ⟨b1, b2, b3, b4⟩ := Hbd.out j hlt
        obtain ⟨b, o, rfl, hbl, x0, x1, x2, x3, x4⟩ := leaf_cells R hlt
        have hj0 : (0 : Int) ≤ (j : Int) := Int.natCast_nonneg _
        have hj1 : (j : Int) < (L.length : Int) := by omega
        simp only [Bool.false_eq_true, if_false] at x3
        have c1 := fun w' => l02In_any ((L.getD j noLeaf).x : Int) ((L.getD j noLeaf).y : Int) ((L.getD j noLeaf).side : Int) (if (L.getD j noLeaf).black = true then 1 else 0) (L.getD j noLeaf).addr x y w' (by omega) (by omega) (by omega)
        have hin : inLeaf x y (L.getD j noLeaf) = (inB x ((L.getD j noLeaf).x : Int) (((L.getD j noLeaf).x : Int) + ((L.getD j noLeaf).side : Int) - 1) && inB y ((L.getD j noLeaf).y : Int) (((L.getD j noLeaf).y : Int) + ((L.getD j noLeaf).side : Int) - 1)) := rfl
        rw [← hin] at c1
        have hno2 : inLeaf x y (L.getD j noLeaf) = false → ∀ k, k < j + 1 → inLeaf x y (L.getD k noLeaf) = false := by
          intro h k hk
          by_cases hkj : k = j
          · rw [hkj]; exact h
          · exact hno k (by omega)
        have hyes := Hhit.out j hlt hno
        generalize ((L.getD j noLeaf).x : Int) = u1 at *
        generalize ((L.getD j noLeaf).y : Int) = u2 at *
        generalize ((L.getD j noLeaf).side : Int) = u3 at *
        generalize (if (L.getD j noLeaf).black = true then (1 : Int) else 0) = u4 at *
        generalize (L.getD j noLeaf).addr = u5 at *
        clear hin b1 b2 b3 b4
        cases hq : inLeaf x y (L.getD j noLeaf)
        · simp only [hq] at c1
          have hno3 := hno2 hq
          have C1 := Lib.hid c1; clear c1
          have Hno3 := Lib.hid hno3; clear hno3
          have Hq := Lib.hid hq; clear hq
          clear hno hno2 hyes
          go_wp2_with fail
          with_reducible (refine (C1.out _).mono ?_)
          rintro e w2 ⟨rfl, hb2⟩
          have S2 := S.bl hb2
          have R2 := R.bl hb2
          clear hb2 S R x0 x1 x2 x3 x4
          go_wp2
          go_roundw
          case rel => exact ⟨j + 1, by omega, by go_num, Hno3.out, S2, R2⟩
          case measure => simp [intOf]; omega
        · simp only [hq] at c1
          obtain ⟨y1, y2⟩ := hyes hq
          have C1 := Lib.hid c1; clear c1
          have Hq := Lib.hid hq; clear hq
          have Y1 := Lib.hid y1; clear y1
          have Y2 := Lib.hid y2; clear y2
          clear hno hno2 hyes
          go_wp2_with fail
          with_reducible (refine (C1.out _).mono ?_)
          rintro e w2 ⟨rfl, hb2⟩
          have S2 := S.bl hb2
          clear hb2 S R x0 x1 x2 x3 x4
          go_wp2
          go_ret2
          refine ⟨?_, S2.below⟩
          rw [Y1.out, Y2.out]; rfl
      · obtain rfl : j = L.length := by omega
        obtain ⟨y1, y2⟩ := Hmiss.out hno
        have Y1 := Lib.hid y1; clear y1
        have Y2 := Lib.hid y2; clear y2
        clear hno
        go_wp2
        go_ret2
        refine ⟨?_, S.below⟩
        rw [Y1.out, Y2.out]; rfl
end Go.Proofs.Ytnenogpagkepfaa
