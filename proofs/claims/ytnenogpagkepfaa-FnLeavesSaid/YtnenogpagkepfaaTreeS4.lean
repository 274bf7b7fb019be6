/- Contract of the reference's reading of trees. -/
import Derived.Test.YtnenogpagkepfaaTreeS3
set_option linter.unusedVariables false
set_option linter.unusedSimpArgs false
namespace Go.Proofs.Ytnenogpagkepfaa
open Go.RowKit

theorem rdZ_pos {t : ByteArray} {k : Nat} {z : Int} (h : 0 ≤ rdZ t k z) : 0 ≤ z ∧ ∃ T, pAt t k z.toNat = some (T, (rdZ t k z).toNat) := by
  rw [rdZ] at h ⊢
  by_cases h0 : z < 0
  · rw [if_pos h0] at h; omega
  · rw [if_neg h0] at h ⊢
    cases e : pAt t k z.toNat with
    | none => rw [e] at h; simp at h
    | some q =>
      obtain ⟨T, n⟩ := q
      exact ⟨by omega, T, by simp⟩
theorem node_no {t : ByteArray} {k n : Nat} (hn : n < t.size) (hc : t[n] = 40) (h : rdZ t k (rdZ t k (rdZ t k (rdZ t k ((n : Int) + 1)))) < 0) : pAt t (k + 1) n = none := by
  have e : t.data[n]? = some 40 := by rw [← hc]; exact Array.getElem?_eq_getElem hn
  have e1 : ((n : Int) + 1) = ((n + 1 : Nat) : Int) := by omega
  rw [e1] at h
  rw [pAt, e]
  simp only [show (40 : UInt8) ≠ 35 by decide, show (40 : UInt8) ≠ 46 by decide, if_false, if_true]
  cases h0 : pAt t k (n + 1) with
  | none => rfl
  | some q0 =>
    obtain ⟨a, m0⟩ := q0
    rw [rdZ_some h0] at h
    simp only
    cases h1 : pAt t k m0 with
    | none => rfl
    | some q1 =>
      obtain ⟨b, m1⟩ := q1
      rw [rdZ_some h1] at h
      simp only
      cases h2 : pAt t k m1 with
      | none => rfl
      | some q2 =>
        obtain ⟨c, m2⟩ := q2
        rw [rdZ_some h2] at h
        simp only
        cases h3 : pAt t k m2 with
        | none => rfl
        | some q3 =>
          obtain ⟨d, m3⟩ := q3
          rw [rdZ_some h3] at h
          omega
theorem node_yes {t : ByteArray} {k n : Nat} (hn : n < t.size) (hc : t[n] = 40) {z0 z1 z2 z3 : Int} (h0 : z0 = rdZ t k ((n : Int) + 1)) (h1 : z1 = rdZ t k z0) (h2 : z2 = rdZ t k z1) (h3 : z3 = rdZ t k z2) (h : 0 ≤ z3) :
    ∃ a b c d, (0 ≤ z0 ∧ 0 ≤ z1 ∧ 0 ≤ z2) ∧ pAt t k (n + 1) = some (a, z0.toNat) ∧ pAt t k z0.toNat = some (b, z1.toNat) ∧ pAt t k z1.toNat = some (c, z2.toNat) ∧ pAt t k z2.toNat = some (d, z3.toNat) ∧
      pAt t (k + 1) n = (match t.data[z3.toNat]? with | none => none | some e => if e = 41 then some (.node a b c d, z3.toNat + 1) else none) := by
  obtain ⟨g2, d, p3⟩ := rdZ_pos (h3 ▸ h)
  obtain ⟨g1, c, p2⟩ := rdZ_pos (h2 ▸ g2)
  obtain ⟨g0, b, p1⟩ := rdZ_pos (h1 ▸ g1)
  obtain ⟨_, a, p0⟩ := rdZ_pos (h0 ▸ g0)
  rw [← h3] at p3
  rw [← h2] at p2
  rw [← h1] at p1
  rw [← h0, show ((n : Int) + 1).toNat = n + 1 by omega] at p0
  refine ⟨a, b, c, d, ⟨g0, g1, g2⟩, p0, p1, p2, p3, ?_⟩
  have e : t.data[n]? = some 40 := by rw [← hc]; exact Array.getElem?_eq_getElem hn
  rw [pAt, e]
  simp only [show (40 : UInt8) ≠ 35 by decide, show (40 : UInt8) ≠ 46 by decide, if_false, if_true, p0, p1, p2, p3]
  rfl
def RdVal (v : Int) (t : ByteArray) (k W x y g : Nat) (f : Nat → Bool) (z : Int) (w : World) (e : Ending) (w' : World) : Prop :=
  e = .returned (.int .i64 v) ∧ w.grownBy w' (some g) ∧ ∃ F, Bools w' g (W * W) F ∧ ∀ T m, 0 ≤ z → pAt t k z.toNat = some (T, m) → ∀ i, i < W * W → F i = paintT f W k x y T i
theorem RdOut.val {v : Int} {t : ByteArray} {k W x y g : Nat} {f : Nat → Bool} {z : Int} {w : World} {e : Ending} {w' : World} (h : RdOut t k W x y g f z w e w') (hv : v = rdZ t k z) : RdVal v t k W x y g f z w e w' := ⟨by rw [hv]; exact h.1, h.2⟩
set_option maxRecDepth 100000 in
set_option maxHeartbeats 4000000 in
theorem l02Read_any (t : ByteArray) (W g c : Nat) (ht : t.size ≤ 1000) (hW : W ≤ 16) (k : Nat) : ∀ (f : Nat → Bool) (x y : Nat) (X Y s z : Int) (w : World) (B : Bools w g (W * W) f) (hX : X = (x : Int)) (hY : Y = (y : Int)) (hs : s = ((2 ^ k : Nat) : Int)) (hk : k ≤ 4) (hx : x + 2 ^ k ≤ W) (hy : y + 2 ^ k ≤ W) (hz1 : -1 ≤ z) (hz2 : z ≤ t.size),
    Calls Try.prog 92 #[.string t, .int .i64 z, .slice (some ⟨g, 0, none⟩) (W * W) c, .int .i64 W, .int .i64 X, .int .i64 Y, .int .i64 s] w (RdOut t k W x y g f z w) := by
  induction k with
  | zero =>
    intro f x y X Y s z w B hX hY hs hk hx hy hz1 hz2
    by_cases hz : z < 0 ∨ (t.size : Int) ≤ z
    · exact l02Read_out t W g c 0 f x y X Y s z w ht B hz hz1 (by omega)
    · obtain ⟨n, rfl⟩ := Int.eq_ofNat_of_zero_le (show 0 ≤ z by omega)
      exact l02Read_flat t W g c 0 f x y X Y s n w ht hW B hX hY hs hk hx hy (by omega) (.inr rfl)
  | succ k ih =>
    intro f x y X Y s z w B hX hY hs hk hx hy hz1 hz2
    by_cases hz : z < 0 ∨ (t.size : Int) ≤ z
    · exact l02Read_out t W g c (k + 1) f x y X Y s z w ht B hz hz1 (by omega)
    · obtain ⟨n, rfl⟩ := Int.eq_ofNat_of_zero_le (show 0 ≤ z by omega)
      have hn : n < t.size := by omega
      by_cases hc : t[n] = 40
      · have t1 : ((t[n].toNat : Int) == 35) = false := by rw [hc]; rfl
        have t2 : ((t[n].toNat : Int) == 46) = false := by rw [hc]; rfl
        have t3 : ((t[n].toNat : Int) == 40) = true := by rw [hc]; rfl
        have hM : 2 ^ (k + 1) = 2 ^ k + 2 ^ k := by rw [Nat.pow_succ]; omega
        have hM1 := pow_le4 (k := k) (by omega)
        have hpn := fun f a b c d i => paint_node (f := f) (W := W) (k := k) (x := x) (y := y) (a := a) (b := b) (c := c) (d := d) i
        rw [hM] at hs hx hy
        obtain ⟨M, eM⟩ : ∃ M, 2 ^ k = M := ⟨_, rfl⟩
        have ih2 := fun f x y X Y s z w B hX hY hs hx hy h1 h2 => ih f x y X Y s z w B hX hY hs (by omega) hx hy h1 h2
        simp only [eM] at hs hx hy hM1 ih2 hpn
        have hX1 : X ≤ x := by omega
        have hX2 : x ≤ X := by omega
        have hY1 : Y ≤ y := by omega
        have hY2 : y ≤ Y := by omega
        have hs1 : s ≤ 2 * (M : Int) := by omega
        have hs2 : 2 * (M : Int) ≤ s := by omega
        have t4 : (s == 1) = false := by rw [← Bool.not_eq_true, beq_iff_eq]; omega
        have hn0 : (0 : Int) ≤ (n : Int) := Int.natCast_nonneg _
        have hn1 : (n : Int) < (t.size : Int) := by omega
        have b0 := rdZ_bd t k ((n : Int) + 1)
        have b1 := rdZ_bd t k (rdZ t k ((n : Int) + 1))
        have b2 := rdZ_bd t k (rdZ t k (rdZ t k ((n : Int) + 1)))
        have b3 := rdZ_bd t k (rdZ t k (rdZ t k (rdZ t k ((n : Int) + 1))))
        obtain ⟨z0, e0⟩ : ∃ z0, z0 = rdZ t k ((n : Int) + 1) := ⟨_, rfl⟩
        rw [← e0] at b0 b1 b2 b3
        obtain ⟨z1, e1⟩ : ∃ z1, z1 = rdZ t k z0 := ⟨_, rfl⟩
        rw [← e1] at b1 b2 b3
        obtain ⟨z2, e2⟩ : ∃ z2, z2 = rdZ t k z1 := ⟨_, rfl⟩
        rw [← e2] at b2 b3
        obtain ⟨z3, e3⟩ : ∃ z3, z3 = rdZ t k z2 := ⟨_, rfl⟩
        rw [← e3] at b3
        have i0 := fun s' w B hs' => (ih2 f x y X Y s' ((n : Int) + 1) w B hX hY hs' (by omega) (by omega) (by omega) (by omega)).mono (fun e w' q => q.val e0)
        have i1 := fun f X' s' w B hX' hs' => (ih2 f (x + M) y X' Y s' z0 w B hX' hY hs' (by omega) (by omega) (by omega) (by omega)).mono (fun e w' q => q.val e1)
        have i2 := fun f Y' s' w B hY' hs' => (ih2 f x (y + M) X Y' s' z1 w B hX hY' hs' (by omega) (by omega) (by omega) (by omega)).mono (fun e w' q => q.val e2)
        have i3 := fun f X' Y' s' w B hX' hY' hs' => (ih2 f (x + M) (y + M) X' Y' s' z2 w B hX' hY' hs' (by omega) (by omega) (by omega) (by omega)).mono (fun e w' q => q.val e3)
        have hno : z3 < 0 → pAt t (k + 1) n = none := fun h => node_no hn hc (by rw [← e0, ← e1, ← e2, ← e3]; exact h)
        have hyes := node_yes hn hc e0 e1 e2 e3
        obtain ⟨b30, b31⟩ := b3
        clear b0 b1 b2 ih ih2 hz
        have HX := Lib.hid hX; clear hX
        have HY := Lib.hid hY; clear hY
        have Hs := Lib.hid hs; clear hs
        have EM := Lib.hid eM; clear eM
        have E0 := Lib.hid e0; clear e0
        have E1 := Lib.hid e1; clear e1
        have E2 := Lib.hid e2; clear e2
        have E3 := Lib.hid e3; clear e3
        have I0 := Lib.hid i0; clear i0
        have I1 := Lib.hid i1; clear i1
        have I2 := Lib.hid i2; clear i2
        have I3 := Lib.hid i3; clear i3
        have Hno := Lib.hid hno; clear hno
        have Hyes := Lib.hid hyes; clear hyes
        have Hpn := Lib.hid hpn; clear hpn
        have Hc := Lib.hid hc; clear hc
        go_enter Try.func92, Try.ntmps92
        go_wp2_with fail
        with_reducible (refine (I0.out _ _ B (by omega)).mono ?_)
        rintro e w1 ⟨rfl, G1, F1, B1, p1⟩
        go_wp2_with fail
        with_reducible (refine (I1.out _ _ _ _ B1 (by omega) (by omega)).mono ?_)
        rintro e w2 ⟨rfl, G2, F2, B2, p2⟩
        go_wp2_with fail
        with_reducible (refine (I2.out _ _ _ _ B2 (by omega) (by omega)).mono ?_)
        rintro e w3 ⟨rfl, G3, F3, B3, p3⟩
        go_wp2_with fail
        with_reducible (refine (I3.out _ _ _ _ _ B3 (by omega) (by omega) (by omega)).mono ?_)
        rintro e w4 ⟨rfl, G4, F4, B4, p4⟩
        have G := grown_trans (grown_trans (grown_trans G1 G2) G3) G4
        clear G1 G2 G3 G4 B1 B2 B3 B I0 I1 I2 I3
        have P1 := Lib.hid p1; clear p1
        have P2 := Lib.hid p2; clear p2
        have P3 := Lib.hid p3; clear p3
        have P4 := Lib.hid p4; clear p4
        by_cases h3 : z3 < 0
        · have hpa := Hno.out h3
          have hr := rdZ_none hpa
          have Hpa := Lib.hid hpa; clear hpa
          have Hr := Lib.hid hr; clear hr
          go_wp2
          go_ret
          exact ⟨ret_int Hr.out.symm, G, F4, B4, fun T m _ hT i _ => by rw [Int.toNat_natCast, Hpa.out] at hT; cases hT⟩
        · obtain ⟨ta, tb, tc, td, hzs, q0, q1, q2, q3, hpa⟩ := Hyes.out (by omega)
          obtain ⟨m3, rfl⟩ := Int.eq_ofNat_of_zero_le (show 0 ≤ z3 by omega)
          rw [Int.toNat_natCast] at q3 hpa
          by_cases h4 : m3 < t.size
          · have e4 : t.data[m3]? = some t[m3] := Array.getElem?_eq_getElem h4
            rw [e4] at hpa
            simp only at hpa
            have hm0 : (0 : Int) ≤ (m3 : Int) := Int.natCast_nonneg _
            have hm1 : (m3 : Int) < (t.size : Int) := by omega
            by_cases h5 : t[m3] = 41
            · rw [if_pos h5] at hpa
              have t5 : ((t[m3].toNat : Int) != 41) = false := by rw [h5]; rfl
              have hr := rdZ_some hpa
              have Hpa := Lib.hid hpa; clear hpa
              have Hr := Lib.hid hr; clear hr
              have H5 := Lib.hid h5; clear h5
              have E4 := Lib.hid e4; clear e4
              have Q0 := Lib.hid q0; clear q0
              have Q1 := Lib.hid q1; clear q1
              have Q2 := Lib.hid q2; clear q2
              have Q3 := Lib.hid q3; clear q3
              have Hzs := Lib.hid hzs; clear hzs
              go_wp2
              go_ret
              refine ⟨ret_int (by rw [Hr.out]; omega), G, F4, B4, fun T m _ hT i hi => ?_⟩
              rw [Int.toNat_natCast, Hpa.out] at hT
              cases hT
              obtain ⟨y0, y1, y2⟩ := Hzs.out
              rw [P4.out td m3 y2 (by rw [Q3.out]) i hi, paintT_congr (P3.out tc _ y1 Q2.out i hi), paintT_congr (paintT_congr (P2.out tb _ y0 Q1.out i hi)), paintT_congr (paintT_congr (paintT_congr (P1.out ta _ (by omega) (by rw [show ((n : Int) + 1).toNat = n + 1 by omega]; exact Q0.out) i hi)))]
              exact Hpn.out f ta tb tc td i
            · rw [if_neg h5] at hpa
              have t5 : ((t[m3].toNat : Int) != 41) = true := byte_ne h5
              have hr := rdZ_none hpa
              have Hpa := Lib.hid hpa; clear hpa
              have Hr := Lib.hid hr; clear hr
              have H5 := Lib.hid h5; clear h5
              have E4 := Lib.hid e4; clear e4
              have Q0 := Lib.hid q0; clear q0
              have Q1 := Lib.hid q1; clear q1
              have Q2 := Lib.hid q2; clear q2
              have Q3 := Lib.hid q3; clear q3
              have Hzs := Lib.hid hzs; clear hzs
              go_wp2
              go_ret
              exact ⟨ret_int Hr.out.symm, G, F4, B4, fun T m _ hT i _ => by rw [Int.toNat_natCast, Hpa.out] at hT; cases hT⟩
          · have e4 : t.data[m3]? = none := Array.getElem?_eq_none (by have : t.data.size = t.size := rfl; omega)
            rw [e4] at hpa
            simp only at hpa
            have hr := rdZ_none hpa
            have hm1 : (t.size : Int) ≤ (m3 : Int) := by omega
            have hm0 : (0 : Int) ≤ (m3 : Int) := Int.natCast_nonneg _
            have Hpa := Lib.hid hpa; clear hpa
            have Hr := Lib.hid hr; clear hr
            have E4 := Lib.hid e4; clear e4
            have Q0 := Lib.hid q0; clear q0
            have Q1 := Lib.hid q1; clear q1
            have Q2 := Lib.hid q2; clear q2
            have Q3 := Lib.hid q3; clear q3
            have Hzs := Lib.hid hzs; clear hzs
            go_wp2
            go_ret
            exact ⟨ret_int Hr.out.symm, G, F4, B4, fun T m _ hT i _ => by rw [Int.toNat_natCast, Hpa.out] at hT; cases hT⟩
      · exact l02Read_flat t W g c (k + 1) f x y X Y s n w ht hW B hX hY hs hk hx hy hn (.inl hc)
end Go.Proofs.Ytnenogpagkepfaa
