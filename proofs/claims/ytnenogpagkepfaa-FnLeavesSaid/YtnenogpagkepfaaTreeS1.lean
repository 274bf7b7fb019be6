/- Contracts of the reference's trees: sides, squares of one colour, the text of a square. -/
import Derived.Test.YtnenogpagkepfaaQTree
import Derived.Test.YtnenogpagkepfaaSpecPix
set_option linter.unusedVariables false
namespace Go.Proofs.Ytnenogpagkepfaa
open Go.RowKit

def sideB (n : Int) : Bool := n == 1 || n == 2 || n == 4 || n == 8 || n == 16
theorem sideB_pow {n : Int} (h : sideB n = true) : ∃ k : Nat, k ≤ 4 ∧ n = ((2 ^ k : Nat) : Int) := by
  simp only [sideB, Bool.or_eq_true, beq_iff_eq] at h
  rcases h with (((h | h) | h) | h) | h
  · exact ⟨0, by omega, h⟩
  · exact ⟨1, by omega, h⟩
  · exact ⟨2, by omega, h⟩
  · exact ⟨3, by omega, h⟩
  · exact ⟨4, by omega, h⟩
/-- The pixels of a picture; all outside is white. -/
def pf (W H : Nat) (f : Nat → Bool) (x y : Nat) : Bool := px W H f (x : Int) (y : Int)
theorem pow_le4 {k : Nat} (h : k ≤ 4) : 1 ≤ 2 ^ k ∧ 2 ^ k ≤ 16 := by
  have : k = 0 ∨ k = 1 ∨ k = 2 ∨ k = 3 ∨ k = 4 := by omega
  rcases this with rfl | rfl | rfl | rfl | rfl <;> decide
theorem bytesOf_size (l : List UInt8) : (bytesOf l).size = l.length := by simp [bytesOf, ByteArray.size]
theorem qt_len (k : Nat) (f : Nat → Nat → Bool) (x y : Nat) (hk : k ≤ 4) : (bytesOf (qt k f x y).print).size ≤ 766 := by
  rw [bytesOf_size]
  have := print_len k _ (qt_deep k f x y)
  have h4 : k = 0 ∨ k = 1 ∨ k = 2 ∨ k = 3 ∨ k = 4 := by omega
  rcases h4 with rfl | rfl | rfl | rfl | rfl <;> simp at this <;> omega
theorem ret_str {a b : ByteArray} (h : a = b) : Ending.returned (.string a) = .returned (.string b) := by rw [h]
theorem bytes_app (l m : List UInt8) : bytesOf l ++ bytesOf m = bytesOf (l ++ m) := by
  apply ByteArray.ext
  simp [bytesOf]

set_option maxHeartbeats 400000 in
theorem l02Side_any (n : Int) (w : World) : Calls Try.prog 73 #[.int .i64 n] w fun e w' => e = .returned (.bool (sideB n)) ∧ w = w' := by
  have key : ∀ b1 b2 b3 b4 b5 : Bool, (n == 1) = b1 → (n == 2) = b2 → (n == 4) = b3 → (n == 8) = b4 → (n == 16) = b5 → Calls Try.prog 73 #[.int .i64 n] w fun e w' => e = .returned (.bool (b1 || b2 || b3 || b4 || b5)) ∧ w = w' := by
    intro b1 b2 b3 b4 b5 h1 h2 h3 h4 h5
    cases b1 with
    | true =>
      go_enter Try.func73, Try.ntmps73
      go_wp2
      go_ret
      exact ⟨rfl, rfl⟩
    | false => cases b2 with
      | true =>
        go_enter Try.func73, Try.ntmps73
        go_wp2
        go_ret
        exact ⟨rfl, rfl⟩
      | false => cases b3 with
        | true =>
          go_enter Try.func73, Try.ntmps73
          go_wp2
          go_ret
          exact ⟨rfl, rfl⟩
        | false => cases b4 with
          | true =>
            go_enter Try.func73, Try.ntmps73
            go_wp2
            go_ret
            exact ⟨rfl, rfl⟩
          | false =>
            go_enter Try.func73, Try.ntmps73
            go_wp2
            go_ret
            exact ⟨rfl, rfl⟩
  exact key _ _ _ _ _ rfl rfl rfl rfl rfl
/-- The square up to row J and, in it, column I has one colour. -/
def SameTo (f : Nat → Nat → Bool) (N x y J I : Nat) : Prop := (∀ j i, j < J → i < N → f (x + i) (y + j) = f x y) ∧ ∀ i, i < I → f (x + i) (y + J) = f x y
theorem uni_no {k : Nat} {f : Nat → Nat → Bool} {x y i j : Nat} (hi : i < 2 ^ k) (hj : j < 2 ^ k) (h : f (x + i) (y + j) ≠ f x y) : uni k f x y = false := by
  cases e : uni k f x y with
  | false => rfl
  | true => exact absurd ((uni_iff.1 e) i j hi hj) h
def SmOut (f : Nat → Nat → Bool) (N x y : Nat) (v : Value) : Prop := ∃ (J : Nat) (z : Int), J ≤ N ∧ v = .int .i64 z ∧ z = ((y + J : Nat) : Int) ∧ SameTo f N x y J 0
def SmIn (f : Nat → Nat → Bool) (N x y J : Nat) (v : Value) : Prop := ∃ (I : Nat) (z : Int), I ≤ N ∧ v = .int .i64 z ∧ z = ((x + I : Nat) : Int) ∧ SameTo f N x y J I
set_option maxRecDepth 100000 in
set_option maxHeartbeats 2000000 in
theorem l02Same_any (a : Nat) (p : Option Addr) (c : Nat) (ss : List ByteArray) (k x y : Nat) (X Y s : Int) (w : World) (P : PicAt w a p c ss) (hX : X = (x : Int)) (hY : Y = (y : Int)) (hs : s = ((2 ^ k : Nat) : Int)) (hk : k ≤ 4) (hx : x ≤ 16) (hy : y ≤ 16) :
    Calls Try.prog 103 #[.pointer (some ⟨a, 0, none⟩), .int .i64 X, .int .i64 Y, .int .i64 s] w fun e w' => e = .returned (.bool (uni k (pf (wid ss) ss.length (bits ss)) x y)) ∧ ∃ n, w' = w.drewN n := by
  have hp := pow_le4 hk
  have hno := fun i j => uni_no (k := k) (f := pf (wid ss) ss.length (bits ss)) (x := x) (y := y) (i := i) (j := j)
  have hyes := fun h => (uni_iff (k := k) (f := pf (wid ss) ss.length (bits ss)) (x := x) (y := y)).2 h
  have k4 := fun x y w' h => l01Black_any a p c ss x y w' h
  obtain ⟨u, eu⟩ : ∃ u, uni k (pf (wid ss) ss.length (bits ss)) x y = u := ⟨_, rfl⟩
  rw [eu] at hno hyes ⊢
  obtain ⟨f, ef⟩ : ∃ f, pf (wid ss) ss.length (bits ss) = f := ⟨_, rfl⟩
  have hf : ∀ i j : Nat, px (wid ss) ss.length (bits ss) (i : Int) (j : Int) = f i j := fun i j => by rw [← ef]; rfl
  rw [ef] at hno hyes
  obtain ⟨N, eN⟩ : ∃ N, 2 ^ k = N := ⟨_, rfl⟩
  rw [eN] at hs hp hno hyes
  obtain ⟨hp1, hp2⟩ := hp
  have hX1 : X ≤ x := by omega
  have hX2 : x ≤ X := by omega
  have hY1 : Y ≤ y := by omega
  have hY2 : y ≤ Y := by omega
  have hs1 : s ≤ N := by omega
  have hs2 : (N : Int) ≤ s := by omega
  have HX := Lib.hid hX; clear hX
  have HY := Lib.hid hY; clear hY
  have Hs := Lib.hid hs; clear hs
  have EN := Lib.hid eN; clear eN
  have Eu := Lib.hid eu; clear eu
  have Ef := Lib.hid ef; clear ef
  have Hno := Lib.hid hno; clear hno
  have Hyes := Lib.hid hyes; clear hyes
  have K4 := Lib.hid k4; clear k4
  have Hf := Lib.hid hf; clear hf
  go_enter Try.func103, Try.ntmps103
  go_wp2
  go_loopw [9] (fun i wr => SmOut f N x y i ∧ ∃ n, wr = w.drewN n) (fun i _ => (Y + s - intOf i).toNat)
  case atStart => exact ⟨⟨0, Y, by omega, rfl, by omega, fun j i hj => absurd hj (Nat.not_lt_zero _), fun i hi => absurd hi (Nat.not_lt_zero _)⟩, 0, rfl⟩
  case round =>
    obtain ⟨⟨J, z, hJ, rfl, hz, hJJ⟩, n, rfl⟩ := hrel
    have hz1 : z ≤ y + J := by omega
    have hz2 : (y : Int) + J ≤ z := by omega
    have Hz := Lib.hid hz; clear hz
    have HJJ := Lib.hid hJJ; clear hJJ
    by_cases hJN : J < N
    · have t1 : decide (z < Y + s) = true := by rw [decide_eq_true_eq]; omega
      go_wp2
      go_loopw [10] (fun i wr => SmIn f N x y J i ∧ ∃ n, wr = w.drewN n) (fun i _ => (X + s - intOf i).toNat)
      case atStart => exact ⟨⟨0, X, by omega, rfl, by omega, HJJ.out.1, fun i hi => absurd hi (Nat.not_lt_zero _)⟩, n, rfl⟩
      case round =>
        clear HJJ
        obtain ⟨⟨I, v, hI, rfl, hv, hII⟩, n, rfl⟩ := hrel
        have hv1 : v ≤ x + I := by omega
        have hv2 : (x : Int) + I ≤ v := by omega
        by_cases hIN : I < N
        · have t2 : decide (v < X + s) = true := by rw [decide_eq_true_eq]; omega
          have cp := fun m => K4.out v z (w.drewN m) (P.drewN m)
          have cq := fun m => K4.out X Y (w.drewN m) (P.drewN m)
          have e1 : px (wid ss) ss.length (bits ss) v z = f (x + I) (y + J) := by rw [hv, Hz.out, Hf.out]
          have e2 : px (wid ss) ss.length (bits ss) X Y = f x y := by rw [HX.out, HY.out, Hf.out]
          simp only [e1] at cp
          simp only [e2] at cq
          clear e1 e2
          have Hv := Lib.hid hv; clear hv
          have HII := Lib.hid hII; clear hII
          have Cp := Lib.hid cp; clear cp
          have Cq := Lib.hid cq; clear cq
          obtain ⟨b1, eb1⟩ : ∃ b1, f (x + I) (y + J) = b1 := ⟨_, rfl⟩
          obtain ⟨b2, eb2⟩ : ∃ b2, f x y = b2 := ⟨_, rfl⟩
          have cp := Cp.out
          have cq := Cq.out
          simp only [eb1] at cp
          simp only [eb2] at cq
          by_cases h3 : b1 = b2
          · have hI2 : SameTo f N x y J (I + 1) := ⟨HII.out.1, fun i hi => by
              by_cases e : i = I
              · subst e; rw [eb1, eb2]; exact h3
              · exact HII.out.2 i (by omega)⟩
            subst h3
            clear Cp Cq
            have HI2 := Lib.hid hI2; clear hI2
            have Eb1 := Lib.hid eb1; clear eb1
            have Eb2 := Lib.hid eb2; clear eb2
            have Cp := Lib.hid cp; clear cp
            have Cq := Lib.hid cq; clear cq
            cases b1
            all_goals
              go_wp2_with fail
              with_reducible (refine (Cp.out _).mono ?_)
              rintro e w1 ⟨rfl, n1, rfl⟩
              go_wp2_with fail
              with_reducible (refine (Cq.out _).mono ?_)
              rintro e w1 ⟨rfl, n2, rfl⟩
              go_wp2
              go_roundw
              case rel => exact ⟨⟨I + 1, v + 1, by omega, rfl, by have := Hv.out; omega, HI2.out⟩, _, rfl⟩
              case measure => simp [intOf]; omega
          · have hu := Hno.out I J hIN hJN (by rw [eb1, eb2]; exact h3)
            clear Cp Cq
            have Hu := Lib.hid hu; clear hu
            have Eb1 := Lib.hid eb1; clear eb1
            have Eb2 := Lib.hid eb2; clear eb2
            have Cp := Lib.hid cp; clear cp
            have Cq := Lib.hid cq; clear cq
            cases b1
            all_goals cases b2
            all_goals first | exact absurd rfl h3 | skip
            all_goals
              clear h3
              go_wp2_with fail
              with_reducible (refine (Cp.out _).mono ?_)
              rintro e w1 ⟨rfl, n1, rfl⟩
              go_wp2_with fail
              with_reducible (refine (Cq.out _).mono ?_)
              rintro e w1 ⟨rfl, n2, rfl⟩
              go_wp2
              go_ret
              exact ⟨ret_bool Hu.out.symm, _, rfl⟩
        · obtain rfl : I = N := by omega
          have t2 : decide (v < X + s) = false := by rw [decide_eq_false_iff_not]; omega
          have hJ2 : SameTo f I x y (J + 1) 0 := ⟨fun j i hj hi => by
              by_cases e : j = J
              · subst e; exact hII.2 i hi
              · exact hII.1 j i (by omega) hi, fun i hi => absurd hi (Nat.not_lt_zero _)⟩
          have Hv := Lib.hid hv; clear hv
          have HII := Lib.hid hII; clear hII
          have HJ2 := Lib.hid hJ2; clear hJ2
          go_wp2
          go_roundw
          case rel => exact ⟨⟨J + 1, z + 1, by omega, rfl, by have := Hz.out; omega, HJ2.out⟩, _, rfl⟩
          case measure => simp [intOf]; omega
    · obtain rfl : J = N := by omega
      have t1 : decide (z < Y + s) = false := by rw [decide_eq_false_iff_not]; omega
      have hu := Hyes.out (fun i j hi hj => HJJ.out.1 j i hj hi)
      have Hu := Lib.hid hu; clear hu
      go_wp2
      go_ret
      exact ⟨ret_bool Hu.out.symm, _, rfl⟩
set_option maxRecDepth 100000 in
set_option maxHeartbeats 2000000 in
theorem l02Text_any (a : Nat) (p : Option Addr) (c : Nat) (ss : List ByteArray) (k : Nat) : ∀ (x y : Nat) (X Y s : Int) (w : World) (P : PicAt w a p c ss) (hX : X = (x : Int)) (hY : Y = (y : Int)) (hs : s = ((2 ^ k : Nat) : Int)) (hk : k ≤ 4) (hx : x + 2 ^ k ≤ 16) (hy : y + 2 ^ k ≤ 16),
    Calls Try.prog 93 #[.pointer (some ⟨a, 0, none⟩), .int .i64 X, .int .i64 Y, .int .i64 s] w fun e w' => e = .returned (.string (bytesOf (qt k (pf (wid ss) ss.length (bits ss)) x y).print)) ∧ ∃ n, w' = w.drewN n := by
  induction k with
  | zero =>
    intro x y X Y s w P hX hY hs hk hx hy
    have hu := uni0 (pf (wid ss) ss.length (bits ss)) x y
    have c1 := l02Same_any a p c ss 0 x y X Y s w P hX hY hs hk (by omega) (by omega)
    rw [hu] at c1
    have c2 := fun n => l01Black_any a p c ss X Y (w.drewN n) (P.drewN n)
    have e1 : px (wid ss) ss.length (bits ss) X Y = pf (wid ss) ss.length (bits ss) x y := by rw [hX, hY]; rfl
    simp only [e1] at c2
    rw [qt]
    cases hb : pf (wid ss) ss.length (bits ss) x y
    all_goals
      simp only [hb] at c2
      clear e1 hX hY hs hu hb
      have C1 := Lib.hid c1
      have C2 := Lib.hid c2
      clear c1 c2
      go_enter Try.func93, Try.ntmps93
      go_wp2_with fail
      with_reducible (refine C1.out.mono ?_)
      rintro e w1 ⟨rfl, n1, rfl⟩
      go_wp2_with fail
      with_reducible (refine (C2.out _).mono ?_)
      rintro e w1 ⟨rfl, n2, rfl⟩
      go_wp2_with fail
      go_ret
      exact ⟨rfl, _, rfl⟩
  | succ k ih =>
    intro x y X Y s w P hX hY hs hk hx hy
    have c1 := l02Same_any a p c ss (k + 1) x y X Y s w P hX hY hs hk (by have := pow_le4 hk; omega) (by have := pow_le4 hk; omega)
    have c2 := fun n => l01Black_any a p c ss X Y (w.drewN n) (P.drewN n)
    have e1 : px (wid ss) ss.length (bits ss) X Y = pf (wid ss) ss.length (bits ss) x y := by rw [hX, hY]; rfl
    simp only [e1] at c2
    have hM : 2 ^ (k + 1) = 2 ^ k + 2 ^ k := by rw [Nat.pow_succ]; omega
    have hM1 := pow_le4 (k := k) (by omega)
    rw [hM] at hs hx hy
    have ih2 := fun x y X Y s w P hX hY hs hx hy => ih x y X Y s w P hX hY hs (by omega) hx hy
    clear e1 hM ih
    rw [qt]
    cases hu : uni (k + 1) (pf (wid ss) ss.length (bits ss)) x y
    · rw [hu] at c1
      rw [if_neg (by simp)]
      obtain ⟨M, eM⟩ : ∃ M, 2 ^ k = M := ⟨_, rfl⟩
      rw [eM] at hs hx hy hM1 ih2 ⊢
      have hX1 : X ≤ x := by omega
      have hX2 : x ≤ X := by omega
      have hY1 : Y ≤ y := by omega
      have hY2 : y ≤ Y := by omega
      have hs1 : s ≤ 2 * (M : Int) := by omega
      have hs2 : 2 * (M : Int) ≤ s := by omega
      have i0 := fun n s' hs' => ih2 x y X Y s' (w.drewN n) (P.drewN n) hX hY hs' (by omega) (by omega)
      have i1 := fun n X' s' hX' hs' => ih2 (x + M) y X' Y s' (w.drewN n) (P.drewN n) hX' hY hs' (by omega) (by omega)
      have i2 := fun n Y' s' hY' hs' => ih2 x (y + M) X Y' s' (w.drewN n) (P.drewN n) hX hY' hs' (by omega) (by omega)
      have i3 := fun n X' Y' s' hX' hY' hs' => ih2 (x + M) (y + M) X' Y' s' (w.drewN n) (P.drewN n) hX' hY' hs' (by omega) (by omega)
      simp only [QT.print]
      have z0 := qt_len k (pf (wid ss) ss.length (bits ss)) x y (by omega)
      have z1 := qt_len k (pf (wid ss) ss.length (bits ss)) (x + M) y (by omega)
      have z2 := qt_len k (pf (wid ss) ss.length (bits ss)) x (y + M) (by omega)
      have z3 := qt_len k (pf (wid ss) ss.length (bits ss)) (x + M) (y + M) (by omega)
      generalize (qt k (pf (wid ss) ss.length (bits ss)) x y).print = T0 at *
      generalize (qt k (pf (wid ss) ss.length (bits ss)) (x + M) y).print = T1 at *
      generalize (qt k (pf (wid ss) ss.length (bits ss)) x (y + M)).print = T2 at *
      generalize (qt k (pf (wid ss) ss.length (bits ss)) (x + M) (y + M)).print = T3 at *
      clear ih2
      have HX := Lib.hid hX; clear hX
      have HY := Lib.hid hY; clear hY
      have Hs := Lib.hid hs; clear hs
      have C1 := Lib.hid c1; clear c1
      have C2 := Lib.hid c2; clear c2
      have Hu := Lib.hid hu; clear hu
      have I0 := Lib.hid i0; clear i0
      have I1 := Lib.hid i1; clear i1
      have I2 := Lib.hid i2; clear i2
      have I3 := Lib.hid i3; clear i3
      have EM := Lib.hid eM; clear eM
      go_enter Try.func93, Try.ntmps93
      go_wp2_with fail
      with_reducible (refine C1.out.mono ?_)
      rintro e w1 ⟨rfl, n1, rfl⟩
      go_wp2_with fail
      with_reducible (refine (I0.out _ _ (by omega)).mono ?_)
      rintro e w1 ⟨rfl, n2, rfl⟩
      go_wp2_with fail
      with_reducible (refine (I1.out _ _ _ (by omega) (by omega)).mono ?_)
      rintro e w1 ⟨rfl, n3, rfl⟩
      go_wp2_with fail
      with_reducible (refine (I2.out _ _ _ (by omega) (by omega)).mono ?_)
      rintro e w1 ⟨rfl, n4, rfl⟩
      go_wp2_with fail
      with_reducible (refine (I3.out _ _ _ _ (by omega) (by omega) (by omega)).mono ?_)
      rintro e w1 ⟨rfl, n5, rfl⟩
      go_wp2_with fail
      go_ret
      refine ⟨ret_str ?_, _, rfl⟩
      rw [show (⟨#[40]⟩ : ByteArray) = bytesOf [40] from rfl, show (⟨#[41]⟩ : ByteArray) = bytesOf [41] from rfl]
      simp only [bytes_app]
      congr 1
      simp [List.append_assoc]
    · rw [hu] at c1
      rw [if_pos rfl]
      cases hb : pf (wid ss) ss.length (bits ss) x y
      all_goals
        simp only [hb] at c2
        clear hX hY hs hu hb ih2
        have C1 := Lib.hid c1
        have C2 := Lib.hid c2
        clear c1 c2
        go_enter Try.func93, Try.ntmps93
        go_wp2_with fail
        with_reducible (refine C1.out.mono ?_)
        rintro e w1 ⟨rfl, n1, rfl⟩
        go_wp2_with fail
        with_reducible (refine (C2.out _).mono ?_)
        rintro e w1 ⟨rfl, n2, rfl⟩
        go_wp2_with fail
        go_ret
        exact ⟨rfl, _, rfl⟩
end Go.Proofs.Ytnenogpagkepfaa
