/- Contract of the reference's reading of trees: the walk. -/
import Derived.Test.YtnenogpagkepfaaTreeS2
set_option linter.unusedVariables false
namespace Go.Proofs.Ytnenogpagkepfaa
open Go.RowKit

theorem byte_is_not {b c : UInt8} (h : b ≠ c) : ((b.toNat : Int) == (c.toNat : Int)) = false := by rw [byte_eqb]; simpa using h
def RpOut (f : Nat → Bool) (W x y M g : Nat) (w : World) (v : Value) (wr : World) : Prop :=
  ∃ (J : Nat) (z : Int), J ≤ M ∧ v = .int .i64 z ∧ z = ((y + J : Nat) : Int) ∧ Bools wr g (W * W) (paintR f W x y M J 0) ∧ w.grownBy wr (some g)
def RpIn (f : Nat → Bool) (W x y M J g : Nat) (w : World) (v : Value) (wr : World) : Prop :=
  ∃ (I : Nat) (z : Int), I ≤ M ∧ v = .int .i64 z ∧ z = ((x + I : Nat) : Int) ∧ Bools wr g (W * W) (paintR f W x y M J I) ∧ w.grownBy wr (some g)
/- Where no tree lies inside. -/
set_option maxRecDepth 100000 in
set_option maxHeartbeats 4000000 in
theorem l02Read_flat (t : ByteArray) (W g c k : Nat) (f : Nat → Bool) (x y : Nat) (X Y s : Int) (n : Nat) (w : World) (ht : t.size ≤ 1000) (hW : W ≤ 16) (B : Bools w g (W * W) f) (hX : X = (x : Int)) (hY : Y = (y : Int)) (hs : s = ((2 ^ k : Nat) : Int)) (hk : k ≤ 4) (hx : x + 2 ^ k ≤ W) (hy : y + 2 ^ k ≤ W)
    (hn : n < t.size) (hc : t[n] ≠ 40 ∨ k = 0) :
    Calls Try.prog 92 #[.string t, .int .i64 n, .slice (some ⟨g, 0, none⟩) (W * W) c, .int .i64 W, .int .i64 X, .int .i64 Y, .int .i64 s] w (RdOut t k W x y g f (n : Int) w) := by
  have hp := pow_le4 hk
  by_cases h35 : t[n] = 35
  · have hpa := pAt_leaf (k := k) hn true h35
    have hz := rdZ_some hpa
    have hdone := fun i => paintR_done (f := f) (W := W) (k := k) (x := x) (y := y) i
    have t1 : ((t[n].toNat : Int) == 35) = true := by rw [beq_iff_eq, h35]; rfl
    have hWW := mul_256 hW hW
    have hres : ∀ F w', w.grownBy w' (some g) → Bools w' g (W * W) F → (∀ i, F i = paintR f W x y (2 ^ k) (2 ^ k) 0 i) → RdOut t k W x y g f (n : Int) w (.returned (.int .i64 ((n : Int) + 1))) w' := fun F w' h1 h2 h3 =>
      ⟨ret_int (by rw [hz]; omega), h1, F, h2, fun T m _ hT i _ => by rw [Int.toNat_natCast, hpa] at hT; cases hT; rw [h3, hdone]⟩
    obtain ⟨M, eM⟩ : ∃ M, 2 ^ k = M := ⟨_, rfl⟩
    rw [eM] at hs hx hy hp hres
    have hX1 : X ≤ x := by omega
    have hX2 : x ≤ X := by omega
    have hY1 : Y ≤ y := by omega
    have hY2 : y ≤ Y := by omega
    have hs1 : s ≤ M := by omega
    have hs2 : (M : Int) ≤ s := by omega
    have hn0 : (0 : Int) ≤ (n : Int) := Int.natCast_nonneg _
    have hn1 : (n : Int) < (t.size : Int) := by omega
    have B0 := B.congr (f' := paintR f W x y M 0 0) (fun i _ => (paintR_start f W x y M i).symm)
    clear hc
    have HX := Lib.hid hX; clear hX
    have HY := Lib.hid hY; clear hY
    have Hs := Lib.hid hs; clear hs
    have EM := Lib.hid eM; clear eM
    have H35 := Lib.hid h35; clear h35
    have Hpa := Lib.hid hpa; clear hpa
    have Hz := Lib.hid hz; clear hz
    have Hdone := Lib.hid hdone; clear hdone
    have Hres := Lib.hid hres; clear hres
    go_enter Try.func92, Try.ntmps92
    go_wp2
    go_loopw [15] (fun i wr => RpOut f W x y M g w i wr) (fun i _ => (Y + s - intOf i).toNat)
    case atStart => exact ⟨0, Y, by omega, rfl, by omega, B0, grown_refl _ _⟩
    case round =>
      clear B0
      obtain ⟨J, z, hJ, rfl, hzz, Q, G⟩ := hrel
      have hz1 : z ≤ y + J := by omega
      have hz2 : (y : Int) + J ≤ z := by omega
      have Hzz := Lib.hid hzz; clear hzz
      by_cases hJM : J < M
      · have t2 : decide (z < Y + s) = true := by rw [decide_eq_true_eq]; omega
        go_wp2
        go_loopw [16] (fun i wr => RpIn f W x y M J g w i wr) (fun i _ => (X + s - intOf i).toNat)
        case atStart => exact ⟨0, X, by omega, rfl, by omega, Q, G⟩
        case round =>
          clear Q G
          obtain ⟨I, v, hI, rfl, hv, Q, G⟩ := hrel
          have hv1 : v ≤ x + I := by omega
          have hv2 : (x : Int) + I ≤ v := by omega
          by_cases hIM : I < M
          · have t3 : decide (v < X + s) = true := by rw [decide_eq_true_eq]; omega
            have hxW : x + I < W := by omega
            have hyW : y + J < W := by omega
            have hlt := at_lt hxW hyW
            have hst := fun i => paintR_step (f := f) (W := W) (x := x) (y := y) (M := M) (J := J) (I := I) hxW i hIM
            have q0 := Q.cell hlt
            have q1 := Q.frozen ((y + J) * W + (x + I))
            have Q1 := (Q.set ((y + J) * W + (x + I)) true).congr (fun i _ => hst i)
            have G1 := grown_setCell G ((y + J) * W + (x + I)) (.bool true)
            obtain ⟨hq0, hq1, hq2, hq3⟩ := at_int hxW hyW hW hW
            have ez : z = ((y + J : Nat) : Int) := Hzz.out
            rw [← ez] at hq0 hq1 hq2 hq3
            rw [← hv] at hq2 hq3
            generalize paintR f W x y M J I ((y + J) * W + (x + I)) = ob at *
            generalize (y + J) * W + (x + I) = N at *
            have Hv := Lib.hid hv; clear hv
            have Ez := Lib.hid ez; clear ez
            have Hst := Lib.hid hst; clear hst
            go_wp2
            go_roundw
            case rel => exact ⟨I + 1, v + 1, by omega, rfl, by have := Hv.out; omega, Q1, G1⟩
            case measure => simp [intOf]; omega
          · obtain rfl : I = M := by omega
            have t3 : decide (v < X + s) = false := by rw [decide_eq_false_iff_not]; omega
            have Q1 := Q.congr (fun i _ => paintR_row (f := f) (W := W) (x := x) (y := y) (M := I) (J := J) i)
            have Hv := Lib.hid hv; clear hv
            go_wp2
            go_roundw
            case rel => exact ⟨J + 1, z + 1, by omega, rfl, by have := Hzz.out; omega, Q1, G⟩
            case measure => simp [intOf]; omega
      · obtain rfl : J = M := by omega
        have t2 : decide (z < Y + s) = false := by rw [decide_eq_false_iff_not]; omega
        go_wp2
        go_ret
        exact Hres.out _ _ G Q (fun i => rfl)
  · have t1 : ((t[n].toNat : Int) == 35) = false := byte_is_not h35
    by_cases h46 : t[n] = 46
    · have hpa := pAt_leaf (k := k) hn false h46
      have hz := rdZ_some hpa
      have t2 : ((t[n].toNat : Int) == 46) = true := by rw [beq_iff_eq, h46]; rfl
      have hres : RdOut t k W x y g f (n : Int) w (.returned (.int .i64 ((n : Int) + 1))) w :=
        ⟨ret_int (by rw [hz]; omega), grown_refl _ _, f, B, fun T m _ hT i _ => by rw [Int.toNat_natCast, hpa] at hT; cases hT; rw [paint_white]⟩
      clear hX hY hs hc
      have H35 := Lib.hid h35; clear h35
      have H46 := Lib.hid h46; clear h46
      have Hpa := Lib.hid hpa; clear hpa
      have Hz := Lib.hid hz; clear hz
      have Hres := Lib.hid hres; clear hres
      go_enter Try.func92, Try.ntmps92
      go_wp2
      go_ret
      exact Hres.out
    · have t2 : ((t[n].toNat : Int) == 46) = false := byte_is_not h46
      have hpa := pAt_else hn h35 h46 hc
      have hz := rdZ_none hpa
      have hres : RdOut t k W x y g f (n : Int) w (.returned (.int .i64 (-1))) w :=
        ⟨ret_int hz.symm, grown_refl _ _, f, B, fun T m _ hT i _ => by rw [Int.toNat_natCast, hpa] at hT; cases hT⟩
      by_cases h40 : t[n] = 40
      · have t3 : ((t[n].toNat : Int) == 40) = true := by rw [beq_iff_eq, h40]; rfl
        obtain rfl : k = 0 := by
          rcases hc with h | h
          · exact absurd h40 h
          · exact h
        have t4 : (s == 1) = true := by rw [hs]; rfl
        clear hX hY hs hc
        have H35 := Lib.hid h35; clear h35
        have H46 := Lib.hid h46; clear h46
        have H40 := Lib.hid h40; clear h40
        have Hpa := Lib.hid hpa; clear hpa
        have Hz := Lib.hid hz; clear hz
        have Hres := Lib.hid hres; clear hres
        go_enter Try.func92, Try.ntmps92
        go_wp2
        go_ret
        exact Hres.out
      · have t3 : ((t[n].toNat : Int) == 40) = false := byte_is_not h40
        clear hX hY hs hc
        have H35 := Lib.hid h35; clear h35
        have H46 := Lib.hid h46; clear h46
        have H40 := Lib.hid h40; clear h40
        have Hpa := Lib.hid hpa; clear hpa
        have Hz := Lib.hid hz; clear hz
        have Hres := Lib.hid hres; clear hres
        go_enter Try.func92, Try.ntmps92
        go_wp2
        go_ret
        exact Hres.out
/- Behind the text, or where reading has stopped. -/
set_option maxRecDepth 100000 in
set_option maxHeartbeats 1000000 in
theorem l02Read_out (t : ByteArray) (W g c k : Nat) (f : Nat → Bool) (x y : Nat) (X Y s : Int) (z : Int) (w : World) (ht : t.size ≤ 1000) (B : Bools w g (W * W) f) (hz : z < 0 ∨ (t.size : Int) ≤ z) (hz1 : -1 ≤ z) (hz2 : z ≤ 1000) :
    Calls Try.prog 92 #[.string t, .int .i64 z, .slice (some ⟨g, 0, none⟩) (W * W) c, .int .i64 W, .int .i64 X, .int .i64 Y, .int .i64 s] w (RdOut t k W x y g f z w) := by
  have hpa : 0 ≤ z → pAt t k z.toNat = none := fun h => pAt_none (by omega)
  have hr : rdZ t k z = -1 := by
    rw [rdZ]
    split
    · rfl
    · rw [hpa (by omega)]
  have hres : RdOut t k W x y g f z w (.returned (.int .i64 (-1))) w := ⟨ret_int hr.symm, grown_refl _ _, f, B, fun T m h0 hT i _ => by rw [hpa h0] at hT; cases hT⟩
  have Hpa := Lib.hid hpa; clear hpa
  have Hr := Lib.hid hr; clear hr
  have Hres := Lib.hid hres; clear hres
  by_cases h0 : z < 0
  · clear hz
    go_enter Try.func92, Try.ntmps92
    go_wp2
    go_ret
    exact Hres.out
  · have h1 : (t.size : Int) ≤ z := by omega
    clear hz
    go_enter Try.func92, Try.ntmps92
    go_wp2
    go_ret
    exact Hres.out
end Go.Proofs.Ytnenogpagkepfaa
