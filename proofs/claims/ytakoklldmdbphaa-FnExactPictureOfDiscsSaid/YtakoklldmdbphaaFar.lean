/- Contracts of the distances of two spots. -/
import Derived.Test.YtakoklldmdbphaaBase
set_option linter.unusedVariables false
namespace Go.Proofs.Ytakoklldmdbphaa
open Go.RowKit

/-- The greater one of a number and its opposite. -/
def absZ (n : Int) : Int := max n (-n)
def farZ (k ax ay bx b : Int) : Int :=
  if k = 0 then absZ (ax - bx) + absZ (ay - b) else if k = 1 then max (absZ (ax - bx)) (absZ (ay - b)) else absZ (ax - bx) * absZ (ax - bx) + absZ (ay - b) * absZ (ay - b)
theorem absZ_bd {n : Int} {B : Int} (h1 : -B ≤ n) (h2 : n ≤ B) : 0 ≤ absZ n ∧ absZ n ≤ B := by unfold absZ; omega
theorem sq_bd {a : Int} {B : Int} (h0 : 0 ≤ a) (h1 : a ≤ B) : 0 ≤ a * a ∧ a * a ≤ B * B :=
  ⟨Int.mul_nonneg h0 h0, Int.mul_le_mul h1 h1 h0 (by omega)⟩
theorem farZ_nonneg (k ax ay bx b : Int) : 0 ≤ farZ k ax ay bx b := by
  have h1 : 0 ≤ absZ (ax - bx) := by unfold absZ; omega
  have h2 : 0 ≤ absZ (ay - b) := by unfold absZ; omega
  unfold farZ
  split
  · omega
  · split
    · omega
    · have := Int.mul_nonneg h1 h1; have := Int.mul_nonneg h2 h2; omega

set_option maxHeartbeats 400000 in
theorem size_any (n : Int) (w : World) (h1 : -1000000 ≤ n) (h2 : n ≤ 1000000) :
    Calls Try.prog 132 #[.int .i64 n] w fun e w' => e = .returned (.int .i64 (absZ n)) ∧ w = w' := by
  go_enter Try.func132, Try.ntmps132
  go_wp2
  all_goals
    go_ret
    exact ⟨ret_int (by unfold absZ; omega), rfl⟩
set_option maxHeartbeats 400000 in
theorem l00Max_any (a b : Int) (w : World) : Calls Try.prog 66 #[.int .i64 a, .int .i64 b] w fun e w' => e = .returned (.int .i64 (max a b)) ∧ w = w' := by
  by_cases h : b < a
  all_goals
    go_enter Try.func66, Try.ntmps66
    go_wp2
    go_ret
    exact ⟨ret_int (by omega), rfl⟩
set_option maxHeartbeats 1000000 in
theorem l06Far_any (k ax ay bx b : Int) (w : World) (h1 : -1000 ≤ ax ∧ ax ≤ 1000) (h2 : -1000 ≤ ay ∧ ay ≤ 1000) (h3 : -1000 ≤ bx ∧ bx ≤ 1000) (h4 : -1000 ≤ b ∧ b ≤ 1000) :
    Calls Try.prog 100 #[.int .i64 k, .int .i64 ax, .int .i64 ay, .int .i64 bx, .int .i64 b] w fun e w' => e = .returned (.int .i64 (farZ k ax ay bx b)) ∧ w = w' := by
  have ex : max (ax - bx) (bx - ax) = absZ (ax - bx) := by unfold absZ; omega
  have ey : max (ay - b) (b - ay) = absZ (ay - b) := by unfold absZ; omega
  have bx1 := absZ_bd (n := ax - bx) (B := 2000) (by omega) (by omega)
  have by1 := absZ_bd (n := ay - b) (B := 2000) (by omega) (by omega)
  have sx := sq_bd bx1.1 bx1.2
  have sy := sq_bd by1.1 by1.2
  have c1 := fun w => l00Max_any (ax - bx) (bx - ax) w
  have c2 := fun w => l00Max_any (ay - b) (b - ay) w
  have c3 := fun w => l00Max_any (absZ (ax - bx)) (absZ (ay - b)) w
  rw [ex] at c1
  rw [ey] at c2
  have hf : ∀ z, farZ k ax ay bx b = z ↔ (if k = 0 then absZ (ax - bx) + absZ (ay - b) else if k = 1 then max (absZ (ax - bx)) (absZ (ay - b)) else absZ (ax - bx) * absZ (ax - bx) + absZ (ay - b) * absZ (ay - b)) = z := fun z => Iff.rfl
  have d1 : -1000 ≤ ax := h1.1
  have d2 : ax ≤ 1000 := h1.2
  have d3 : -1000 ≤ ay := h2.1
  have d4 : ay ≤ 1000 := h2.2
  have d5 : -1000 ≤ bx := h3.1
  have d6 : bx ≤ 1000 := h3.2
  have d7 : -1000 ≤ b := h4.1
  have d8 : b ≤ 1000 := h4.2
  have e1 : (farZ k ax ay bx b) = (if k = 0 then absZ (ax - bx) + absZ (ay - b) else if k = 1 then max (absZ (ax - bx)) (absZ (ay - b)) else absZ (ax - bx) * absZ (ax - bx) + absZ (ay - b) * absZ (ay - b)) := rfl
  rw [e1]
  generalize absZ (ax - bx) = X at *
  generalize absZ (ay - b) = Y at *
  obtain ⟨bx0, bx1⟩ := bx1
  obtain ⟨by0, by1⟩ := by1
  obtain ⟨sx0, sx1⟩ := sx
  obtain ⟨sy0, sy1⟩ := sy
  have C1 := Lib.hid c1; clear c1
  have C2 := Lib.hid c2; clear c2
  have C3 := Lib.hid c3; clear c3
  have Hf := Lib.hid hf; clear hf
  have E1 := Lib.hid e1; clear e1
  have Ex := Lib.hid ex; clear ex
  have Ey := Lib.hid ey; clear ey
  clear h1 h2 h3 h4 Hf E1 Ex Ey
  rcases Decidable.em (k = 0) with hk | hk
  · subst hk
    go_enter Try.func100, Try.ntmps100
    go_wp2_with fail
    refine (C1.out _).mono ?_
    rintro e w1 ⟨rfl, rfl⟩
    go_wp2_with fail
    refine (C2.out _).mono ?_
    rintro e w1 ⟨rfl, rfl⟩
    go_wp2
    go_ret
    exact ⟨rfl, rfl⟩
  · rcases Decidable.em (k = 1) with hk1 | hk1
    · subst hk1
      clear hk
      go_enter Try.func100, Try.ntmps100
      go_wp2_with fail
      refine (C1.out _).mono ?_
      rintro e w1 ⟨rfl, rfl⟩
      go_wp2_with fail
      refine (C2.out _).mono ?_
      rintro e w1 ⟨rfl, rfl⟩
      go_wp2_with fail
      refine (C3.out _).mono ?_
      rintro e w1 ⟨rfl, rfl⟩
      go_wp2
      go_ret
      exact ⟨rfl, rfl⟩
    · rw [if_neg hk, if_neg hk1]
      have t0 : (k == 0) = false := beq_eq_false_iff_ne.2 hk
      have t1 : (k == 1) = false := beq_eq_false_iff_ne.2 hk1
      clear hk hk1
      go_enter Try.func100, Try.ntmps100
      go_wp2_with fail
      refine (C1.out _).mono ?_
      rintro e w1 ⟨rfl, rfl⟩
      go_wp2_with fail
      refine (C2.out _).mono ?_
      rintro e w1 ⟨rfl, rfl⟩
      go_wp2
      go_ret
      exact ⟨rfl, rfl⟩
set_option maxHeartbeats 1000000 in
theorem far_any (k ax ay bx b : Int) (w : World) (h1 : -1000 ≤ ax ∧ ax ≤ 1000) (h2 : -1000 ≤ ay ∧ ay ≤ 1000) (h3 : -1000 ≤ bx ∧ bx ≤ 1000) (h4 : -1000 ≤ b ∧ b ≤ 1000) :
    Calls Try.prog 96 #[.int .i64 k, .agg #[.int .i64 ax, .int .i64 ay], .agg #[.int .i64 bx, .int .i64 b]] w fun e w' => e = .returned (.int .i64 (farZ k ax ay bx b)) ∧ Below w.heap.size w w' := by
  have bx1 := absZ_bd (n := ax - bx) (B := 2000) (by omega) (by omega)
  have by1 := absZ_bd (n := ay - b) (B := 2000) (by omega) (by omega)
  have sx := sq_bd bx1.1 bx1.2
  have sy := sq_bd by1.1 by1.2
  obtain ⟨bx0, bx1⟩ := bx1
  obtain ⟨by0, by1⟩ := by1
  obtain ⟨sx0, sx1⟩ := sx
  obtain ⟨sy0, sy1⟩ := sy
  have d1 : -1000 ≤ ax := h1.1
  have d2 : ax ≤ 1000 := h1.2
  have d3 : -1000 ≤ ay := h2.1
  have d4 : ay ≤ 1000 := h2.2
  have d5 : -1000 ≤ bx := h3.1
  have d6 : bx ≤ 1000 := h3.2
  have d7 : -1000 ≤ b := h4.1
  have d8 : b ≤ 1000 := h4.2
  have e1 : (farZ k ax ay bx b) = (if k = 0 then absZ (ax - bx) + absZ (ay - b) else if k = 1 then max (absZ (ax - bx)) (absZ (ay - b)) else absZ (ax - bx) * absZ (ax - bx) + absZ (ay - b) * absZ (ay - b)) := rfl
  rw [e1]
  clear h1 h2 h3 h4 e1
  rcases Decidable.em (k = 0) with hk | hk
  · subst hk
    go_enter Try.func96, Try.ntmps96
    go_wp2_with fail
    go_quiet ((go_at_call 132; exact Calls.quiet_of_same ((size_any _ _ (by omega) (by omega)).mono fun e w' q => ⟨q.1, q.2.symm⟩)))
    go_wp2
    go_ret
    exact ⟨rfl, by (repeat' (first | exact Below.refl _ _ | assumption | refine Below.drew ?_ | refine below_drewN ?_ _ | refine Below.alloc ?_ ?_ _ | refine Below.setCell ?_ ?_ _ | go_size))⟩
  · rcases Decidable.em (k = 1) with hk1 | hk1
    · subst hk1
      clear hk
      go_enter Try.func96, Try.ntmps96
      go_wp2_with fail
      go_quiet ((go_at_call 132; exact Calls.quiet_of_same ((size_any _ _ (by omega) (by omega)).mono fun e w' q => ⟨q.1, q.2.symm⟩)))
      go_wp2
      all_goals
        go_ret
        exact ⟨ret_int (by omega), by (repeat' (first | exact Below.refl _ _ | assumption | refine Below.drew ?_ | refine below_drewN ?_ _ | refine Below.alloc ?_ ?_ _ | refine Below.setCell ?_ ?_ _ | go_size))⟩
    · rw [if_neg hk, if_neg hk1]
      have t0 : (k == 0) = false := beq_eq_false_iff_ne.2 hk
      have t1 : (k == 1) = false := beq_eq_false_iff_ne.2 hk1
      clear hk hk1
      go_enter Try.func96, Try.ntmps96
      go_wp2_with fail
      go_quiet ((go_at_call 132; exact Calls.quiet_of_same ((size_any _ _ (by omega) (by omega)).mono fun e w' q => ⟨q.1, q.2.symm⟩)))
      go_wp2
      go_ret
      exact ⟨rfl, by (repeat' (first | exact Below.refl _ _ | assumption | refine Below.drew ?_ | refine below_drewN ?_ _ | refine Below.alloc ?_ ?_ _ | refine Below.setCell ?_ ?_ _ | go_size))⟩

def nearB (x y : Int) : Bool := inB x (-1) 16 && inB y (-1) 16
theorem nearB_bd {x y : Int} (h : nearB x y = true) : (-1000 ≤ x ∧ x ≤ 1000) ∧ (-1000 ≤ y ∧ y ≤ 1000) := by
  simp only [nearB, inB, Bool.and_eq_true, decide_eq_true_eq] at h; omega
set_option maxHeartbeats 400000 in
theorem l06Kind_any (k : Int) (w : World) : Calls Try.prog 98 #[.int .i64 k] w fun e w' => e = .returned (.bool (inB k 0 2)) ∧ w = w' := by
  go_enter Try.func98, Try.ntmps98
  go_wp2_with (go_at_call 99; refine (l00In_any _ _ _ _).mono ?_; rintro e w' ⟨rfl, rfl⟩)
  go_ret
  exact ⟨rfl, rfl⟩
set_option maxHeartbeats 400000 in
theorem kindOk_any (k : Int) (w : World) : Calls Try.prog 86 #[.int .i64 k] w fun e w' => e = .returned (.bool (inB k 0 2)) ∧ w = w' := by
  go_enter Try.func86, Try.ntmps86
  go_wp2_with (go_at_call 87; refine (in_any _ _ _ _).mono ?_; rintro e w' ⟨rfl, rfl⟩)
  go_ret
  exact ⟨rfl, rfl⟩
set_option maxHeartbeats 400000 in
theorem nearOk_any (x y : Int) (w : World) : Calls Try.prog 95 #[.agg #[.int .i64 x, .int .i64 y]] w fun e w' => e = .returned (.bool (nearB x y)) ∧ Below w.heap.size w w' := by
  cases h : inB x (-1) 16
  all_goals
    go_enter Try.func95, Try.ntmps95
    go_wp2_with (go_at_call 87; refine (in_any _ _ _ _).mono ?_; rintro e w' ⟨rfl, rfl⟩)
    go_ret
    exact ⟨ret_bool (by simp [nearB, h]), by (repeat' (first | exact Below.refl _ _ | assumption | refine Below.drew ?_ | refine below_drewN ?_ _ | refine Below.alloc ?_ ?_ _ | refine Below.setCell ?_ ?_ _ | go_size))⟩
set_option maxHeartbeats 400000 in
theorem toSpot_any (x y : Int) (w : World) : Calls Try.prog 44 #[.agg #[.int .i64 x, .int .i64 y]] w fun e w' => e = .returned (.agg #[.int .i64 x, .int .i64 y]) ∧ Below w.heap.size w w' := by
  go_enter Try.func44, Try.ntmps44
  go_wp2
  exact bodyPost_ret (v := .agg #[.int .i64 x, .int .i64 y]) (by simp [results, Try.results44, go_sem]) rfl ⟨rfl, by (repeat' (first | exact Below.refl _ _ | assumption | refine Below.drew ?_ | refine below_drewN ?_ _ | refine Below.alloc ?_ ?_ _ | refine Below.setCell ?_ ?_ _ | go_size))⟩

/-- What FarSpots answers. -/
def farSpotsB (k ax ay bx b : Int) : Bool := inB k 0 2 && nearB ax ay && nearB bx b
def farSpotsZ (k ax ay bx b : Int) : Int := if farSpotsB k ax ay bx b then farZ k ax ay bx b else 0
set_option maxHeartbeats 1000000 in
theorem farSpots_any (k ax ay bx b : Int) (w : World) :
    Calls Try.prog 37 #[.int .i64 k, .agg #[.int .i64 ax, .int .i64 ay], .agg #[.int .i64 bx, .int .i64 b]] w fun e w' => e = .returned (.tuple #[.int .i64 (farSpotsZ k ax ay bx b), .bool (farSpotsB k ax ay bx b)]) ∧ Below w.heap.size w w' := by
  unfold farSpotsZ
  cases h0 : inB k 0 2
  · have hB : farSpotsB k ax ay bx b = false := by simp [farSpotsB, h0]
    rw [hB]
    have c0 := fun w => kindOk_any k w
    rw [h0] at c0
    have C0 := Lib.hid c0; clear c0
    have H0 := Lib.hid h0; clear h0
    have HB := Lib.hid hB; clear hB
    go_enter Try.func37, Try.ntmps37
    go_wp2_with (go_at_call 86; refine (C0.out _).mono ?_; rintro e w1 ⟨rfl, rfl⟩)
    go_ret2
    exact ⟨rfl, by (repeat' (first | exact Below.refl _ _ | assumption | refine Below.drew ?_ | refine below_drewN ?_ _ | refine Below.alloc ?_ ?_ _ | refine Below.setCell ?_ ?_ _ | go_size))⟩
  · have c0 := fun w => kindOk_any k w
    rw [h0] at c0
    have c1 := fun w => nearOk_any ax ay w
    have c2 := fun w => nearOk_any bx b w
    cases h1 : nearB ax ay
    · have hB : farSpotsB k ax ay bx b = false := by simp [farSpotsB, h1]
      rw [hB]
      rw [h1] at c1
      have C0 := Lib.hid c0; clear c0
      have C1 := Lib.hid c1; clear c1
      have C2 := Lib.hid c2; clear c2
      have H0 := Lib.hid h0; clear h0
      have H1 := Lib.hid h1; clear h1
      have HB := Lib.hid hB; clear hB
      go_enter Try.func37, Try.ntmps37
      go_wp2_with fail
      refine (C0.out _).mono ?_
      rintro e w1 ⟨rfl, rfl⟩
      go_wp2_with fail
      refine (C1.out _).mono ?_
      rintro e w1 ⟨rfl, hb⟩
      have hb1 := below_a2 hb
      go_wp2
      go_ret2
      exact ⟨rfl, hb1⟩
    · rw [h1] at c1
      have X := (Blk.new w #[.int .i64 ax, .int .i64 ay] 27).alloc (.cells #[.int .i64 bx, .int .i64 b] 27)
      have Y := Blk.new (w.alloc (.cells #[.int .i64 ax, .int .i64 ay] 27)) #[.int .i64 bx, .int .i64 b] 27
      simp only [World.size_alloc] at Y
      cases h2 : nearB bx b
      · have hB : farSpotsB k ax ay bx b = false := by simp [farSpotsB, h2]
        rw [hB]
        rw [h2] at c2
        have C0 := Lib.hid c0; clear c0
        have C1 := Lib.hid c1; clear c1
        have C2 := Lib.hid c2; clear c2
        have H0 := Lib.hid h0; clear h0
        have H1 := Lib.hid h1; clear h1
        have H2 := Lib.hid h2; clear h2
        have HB := Lib.hid hB; clear hB
        go_enter Try.func37, Try.ntmps37
        go_wp2_with fail
        refine (C0.out _).mono ?_
        rintro e w1 ⟨rfl, rfl⟩
        go_wp2_with fail
        refine (C1.out _).mono ?_
        rintro e w1 ⟨rfl, hb⟩
        replace X := X.bl hb
        replace Y := Y.bl hb
        have hb1 := below_a2 hb
        have y0 := Y.cell 0 rfl
        have y1 := Y.cell 1 rfl
        clear hb
        go_wp2_with fail
        refine (C2.out _).mono ?_
        rintro e w2 ⟨rfl, hb⟩
        have hb2 := bl_trans hb1 hb
        go_wp2
        go_ret2
        exact ⟨rfl, hb2⟩
      · have hB : farSpotsB k ax ay bx b = true := by simp [farSpotsB, h0, h1, h2]
        rw [hB]
        rw [h2] at c2
        have n1 := nearB_bd h1
        have n2 := nearB_bd h2
        have c3 := fun w => far_any k ax ay bx b w n1.1 n1.2 n2.1 n2.2
        have C0 := Lib.hid c0; clear c0
        have C1 := Lib.hid c1; clear c1
        have C2 := Lib.hid c2; clear c2
        have C3 := Lib.hid c3; clear c3
        have H0 := Lib.hid h0; clear h0
        have H1 := Lib.hid h1; clear h1
        have H2 := Lib.hid h2; clear h2
        have HB := Lib.hid hB; clear hB
        have N1 := Lib.hid n1; clear n1
        have N2 := Lib.hid n2; clear n2
        go_enter Try.func37, Try.ntmps37
        go_wp2_with fail
        refine (C0.out _).mono ?_
        rintro e w1 ⟨rfl, rfl⟩
        go_wp2_with fail
        refine (C1.out _).mono ?_
        rintro e w1 ⟨rfl, hb⟩
        replace X := X.bl hb
        replace Y := Y.bl hb
        have hb1 := below_a2 hb
        have y0 := Y.cell 0 rfl
        have y1 := Y.cell 1 rfl
        clear hb
        go_wp2_with fail
        refine (C2.out _).mono ?_
        rintro e w2 ⟨rfl, hb⟩
        replace X := X.bl hb
        replace Y := Y.bl hb
        have hb2 := bl_trans hb1 hb
        have y0 := Y.cell 0 rfl
        have y1 := Y.cell 1 rfl
        have x0 := X.cell 0 rfl
        have x1 := X.cell 1 rfl
        clear hb
        go_wp2_with fail
        refine (C3.out _).mono ?_
        rintro e w3 ⟨rfl, hb⟩
        have hb3 := bl_trans hb2 hb
        go_wp2
        go_ret2
        exact ⟨rfl, hb3⟩
end Go.Proofs.Ytakoklldmdbphaa
