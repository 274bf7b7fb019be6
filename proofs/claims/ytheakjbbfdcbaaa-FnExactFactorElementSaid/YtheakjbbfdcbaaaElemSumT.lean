/- Contract of the reference's SumElements. -/
import Derived.Test.YtheakjbbfdcbaaaElemSumS
set_option linter.unusedVariables false
set_option linter.unusedSimpArgs false
namespace Go.Proofs.Ytheakjbbfdcbaaa
open Go.RowKit Go.Sort

set_option maxRecDepth 100000 in
set_option maxHeartbeats 8000000 in
theorem sSum_any (p : Option Addr) (c : Nat) (a : List (Int × Int)) (q : Option Addr) (d : Nat) (b : List (Int × Int)) (w : World) (ha : a.length ≤ 1048576) (hr : Rd w p (a.length * 2) (spotAt a)) (hb : b.length ≤ 1048576) (hq : Rd w q (b.length * 2) (spotAt b)) :
    Calls Try.prog 31 #[.agg #[.slice p a.length c], .agg #[.slice q b.length d]] w fun e w' => ∃ v, e = .returned (.tuple #[.agg #[v], .bool (sumOk a b)]) ∧ OwnSpots w.heap.size w' v (sumR a b) ∧ Below w.heap.size w w' := by
  have S := (((Since.refl w).alloc (.cells #[.slice p a.length c] 28)).alloc (.cells #[.slice q b.length d] 28)).alloc (.cells #[.slice none 0 0] 28)
  have X := ((Box.new w (.slice p a.length c) 28).alloc (.cells #[.slice q b.length d] 28)).alloc (.cells #[.slice none 0 0] 28)
  have Y := (Box.new (w.alloc (.cells #[.slice p a.length c] 28)) (.slice q b.length d) 28).alloc (.cells #[.slice none 0 0] 28)
  have B0 := Box.new ((w.alloc (.cells #[.slice p a.length c] 28)).alloc (.cells #[.slice q b.length d] 28)) (.slice none 0 0) 28
  simp only [World.size_alloc] at Y B0
  have D := ((hr.alloc (.cells #[.slice p a.length c] 28)).alloc (.cells #[.slice q b.length d] 28)).alloc (.cells #[.slice none 0 0] 28)
  have E := ((hq.alloc (.cells #[.slice p a.length c] 28)).alloc (.cells #[.slice q b.length d] 28)).alloc (.cells #[.slice none 0 0] 28)
  have c0 := l03Is_any w.heap.size p c a _ ha X.cell D
  have c1 := fun w' h1 h2 => l03Is_any (w.heap.size + 1) q d b w' hb h1 h2
  cases hoa : okEl a
  · have hk : sumOk a b = false := by simp [sumOk, hoa]
    have hR : sumR a b = [] := by simp [sumR, hk]
    rw [hR, hk]
    rw [hoa] at c0
    have x0 := X.cell
    have C0 := Lib.hid c0; clear c0
    have Hoa := Lib.hid hoa; clear hoa
    have Hk := Lib.hid hk; clear hk
    have HR := Lib.hid hR; clear hR
    clear c1 D E X Y
    go_enter Try.func31, Try.ntmps31
    go_wp2_with fail
    refine C0.out.mono ?_
    rintro e w1 ⟨rfl, hb⟩
    replace S := S.bl hb
    have B1 := B0.bl hb
    have f0 := B1.frozen
    have f1 := B1.cell
    have e0 := (B1.set (.slice none 0 0)).cell
    go_wp2
    exact bodyPost_ret (v := .tuple #[.agg #[.slice none 0 0], .bool false]) (by simp [results, Try.results31, go_sem, e0]) rfl ⟨_, rfl, OwnSpots.nil _ _, by first | exact S.below | exact S.below.setCell (by simp; try omega) _⟩
  · cases hob : okEl b
    · have hk : sumOk a b = false := by simp [sumOk, hob]
      have hR : sumR a b = [] := by simp [sumR, hk]
      rw [hR, hk]
      rw [hoa] at c0
      simp only [hob] at c1
      have x0 := X.cell
      have C0 := Lib.hid c0; clear c0
      have C1 := Lib.hid c1; clear c1
      have Hoa := Lib.hid hoa; clear hoa
      have Hob := Lib.hid hob; clear hob
      have Hk := Lib.hid hk; clear hk
      have HR := Lib.hid hR; clear hR
      clear D
      go_enter Try.func31, Try.ntmps31
      go_wp2_with fail
      refine C0.out.mono ?_
      rintro e w1 ⟨rfl, hb⟩
      replace S := S.bl hb
      have B1 := B0.bl hb
      have E1 := E.bl hb
      have y0 := (Y.bl hb).cell
      clear hb X Y E x0
      go_wp2_with fail
      refine (C1.out _ y0 E1).mono ?_
      rintro e w2 ⟨rfl, hb⟩
      replace S := S.bl hb
      have B2 := B1.bl hb
      have f0 := B2.frozen
      have f1 := B2.cell
      have e0 := (B2.set (.slice none 0 0)).cell
      clear y0
      go_wp2
      exact bodyPost_ret (v := .tuple #[.agg #[.slice none 0 0], .bool false]) (by simp [results, Try.results31, go_sem, e0]) rfl ⟨_, rfl, OwnSpots.nil _ _, by first | exact S.below | exact S.below.setCell (by simp; try omega) _⟩
    · have hk : sumOk a b = okEl (setL (sumL a b)) := by simp [sumOk, hoa, hob]
      rw [hoa] at c0
      simp only [hob] at c1
      obtain ⟨sa, la⟩ := okEl_small hoa
      obtain ⟨sb, lb⟩ := okEl_small hob
      have c2 := fun w' h0 h00 h1 h2 => l03Sum_any w.heap.size (w.heap.size + 1) p c a q d b w' (by omega) (by omega) sa sb h0 h00 h1 h2
      have hsl := setL_len (sumL a b)
      have hml : (setL (sumL a b)).length ≤ 1048576 := by
        rw [sumL_len] at hsl
        have := Nat.mul_le_mul la lb
        omega
      have hR : sumR a b = if sumOk a b then setL (sumL a b) else [] := rfl
      rw [hk] at hR ⊢
      obtain ⟨M, eM⟩ : ∃ M, setL (sumL a b) = M := ⟨_, rfl⟩
      rw [eM] at hR ⊢
      simp only [eM] at c2 hml
      obtain ⟨R, eR⟩ : ∃ R, sumR a b = R := ⟨_, rfl⟩
      rw [eR] at hR ⊢
      have c3 := fun bx p f w' hA O => l03Is_any bx p f M w' hml hA O
      have C0 := Lib.hid c0; clear c0
      have C1 := Lib.hid c1; clear c1
      have C2 := Lib.hid c2; clear c2
      have C3 := Lib.hid c3; clear c3
      have Hoa := Lib.hid hoa; clear hoa
      have Hob := Lib.hid hob; clear hob
      have Hk := Lib.hid hk; clear hk
      have Sa := Lib.hid sa; clear sa
      have Sb := Lib.hid sb; clear sb
      have Hsl := Lib.hid hsl; clear hsl
      have EM := Lib.hid eM; clear eM
      have ER := Lib.hid eR; clear eR
      go_enter Try.func31, Try.ntmps31
      go_wp2_with fail
      refine C0.out.mono ?_
      rintro e w1 ⟨rfl, hb⟩
      replace S := S.bl hb
      have B1 := B0.bl hb
      have D1 := D.bl hb
      have E1 := E.bl hb
      have X1 := X.bl hb
      have Y1 := Y.bl hb
      clear hb X Y E D C0 B0
      go_wp2_with fail
      refine (C1.out _ Y1.cell E1).mono ?_
      rintro e w2 ⟨rfl, hb⟩
      replace S := S.bl hb
      have B2 := B1.bl hb
      have D2 := D1.bl hb
      have E2 := E1.bl hb
      have X2 := X1.bl hb
      have Y2 := Y1.bl hb
      clear hb X1 Y1 D1 E1 B1 C1
      go_wp2_with fail
      refine (C2.out _ X2.cell Y2.cell D2 E2).mono ?_
      rintro e w3 ⟨g, f, rfl, O, hb⟩
      replace S := S.bl hb
      have B3 := (B2.bl hb).alloc (.cells #[.slice (some ⟨g, 0, none⟩) M.length f] 28)
      have hb2 := B2.lt
      have X3 := Box.new w3 (.slice (some ⟨g, 0, none⟩) M.length f) 28
      have O3 := O.bl (bl_alloc w3 (.cells #[.slice (some ⟨g, 0, none⟩) M.length f] 28))
      have S3 := S.alloc (.cells #[.slice (some ⟨g, 0, none⟩) M.length f] 28)
      have R3 := O3.rd
      clear hb D2 E2 X2 Y2 C2 B2 S O
      cases hok : okEl M
      all_goals
        rw [hok] at hR
        simp only [hok] at C3
        go_wp2_with fail
        refine (C3.out _ _ _ _ X3.cell R3).mono ?_
        rintro e w4 ⟨rfl, hb⟩
        have S4 := S3.bl hb
        have B4 := B3.bl hb
        have X4 := X3.bl hb
        have O4 := O3.bl hb
        have f0 := B4.frozen
        have f1 := B4.cell
        have f2 := X4.cell
        have e0 := fun v => (B4.set v).cell
        have o5 : ∀ v, OwnSpots w.heap.size (w4.setCell ⟨w.heap.size + 1 + 1, 0, none⟩ v) (.slice (some ⟨g, 0, none⟩) M.length f) M := fun v => by
          obtain ⟨p', c', hv, ho⟩ := O4
          refine ⟨p', c', hv, own_mono (own_other ho (fun e => ?_) _) (by omega)⟩
          have h9 : w2.heap.size ≤ w.heap.size + 1 + 1 := own_ge ho _ e.symm
          omega
        have s5 := fun v => S4.below.setCell (p := ⟨w.heap.size + 1 + 1, 0, none⟩) (by simp; omega) v
        have O5 := Lib.hid o5; clear o5
        have S5 := Lib.hid s5; clear s5
        clear O4 O3 S3 S4 B3 B4 X3 X4 R3 hb C3
      · have e1 := e0 (.slice none 0 0)
        have E0 := Lib.hid e0; clear e0
        go_wp2
        exact bodyPost_ret (v := .tuple #[.agg #[.slice none 0 0], .bool false]) (by simp [results, Try.results31, go_sem, e1]) rfl ⟨.slice none 0 0, by rw [hok], by rw [hR]; exact OwnSpots.nil _ _, S5.out _⟩
      · have e1 := e0 (.slice (some ⟨g, 0, none⟩) M.length f)
        have E0 := Lib.hid e0; clear e0
        go_wp2
        exact bodyPost_ret (v := .tuple #[.agg #[.slice (some ⟨g, 0, none⟩) M.length f], .bool true]) (by simp [results, Try.results31, go_sem, e1]) rfl ⟨.slice (some ⟨g, 0, none⟩) M.length f, by rw [hok], by rw [hR]; exact O5.out _, S5.out _⟩
end Go.Proofs.Ytheakjbbfdcbaaa
