/- Contract of the program's SumElements, joined. -/
import Derived.Test.YtheakjbbfdcbaaaElemSumI
set_option linter.unusedVariables false
set_option linter.unusedSimpArgs false
namespace Go.Proofs.Ytheakjbbfdcbaaa
open Go.RowKit Go.Sort

def sumOk (a b : List (Int × Int)) : Bool := okEl a && (okEl b && okEl (setL (sumL a b)))
def sumR (a b : List (Int × Int)) : List (Int × Int) := if sumOk a b then setL (sumL a b) else []
theorem sumR_len (a b : List (Int × Int)) : (sumR a b).length ≤ 1048576 := by
  unfold sumR
  split
  · rename_i h
    simp only [sumOk, Bool.and_eq_true] at h
    have := (okEl_in h.2.2).2.2
    omega
  · simp
set_option maxRecDepth 100000 in
/-- The one field of an element. -/
theorem run_offsets (p : Option Addr) (n c : Nat) (w : World) : Sem.run Try.prog (Instr.field 28 (.agg #[.slice p n c]) 0) w = .ok (.slice p n c) w := by
  rfl
set_option maxRecDepth 100000 in
set_option maxHeartbeats 8000000 in
theorem sum_any (p : Option Addr) (c : Nat) (a : List (Int × Int)) (q : Option Addr) (d : Nat) (b : List (Int × Int)) (w : World) (ha : a.length ≤ 1048576) (hr : Rd w p (a.length * 2) (spotAt a)) (hb : b.length ≤ 1048576) (hq : Rd w q (b.length * 2) (spotAt b)) :
    Calls Try.prog 32 #[.agg #[.slice p a.length c], .agg #[.slice q b.length d]] w fun e w' => ∃ v, e = .returned (.tuple #[.agg #[v], .bool (sumOk a b)]) ∧ OwnSpots w.heap.size w' v (sumR a b) ∧ Below w.heap.size w w' := by
  have S := (((Since.refl w).alloc (.cells #[.slice p a.length c] 28)).alloc (.cells #[.slice q b.length d] 28)).alloc (.cells #[.slice none 0 0] 28)
  have X := ((Box.new w (.slice p a.length c) 28).alloc (.cells #[.slice q b.length d] 28)).alloc (.cells #[.slice none 0 0] 28)
  have Y := (Box.new (w.alloc (.cells #[.slice p a.length c] 28)) (.slice q b.length d) 28).alloc (.cells #[.slice none 0 0] 28)
  have B0 := Box.new ((w.alloc (.cells #[.slice p a.length c] 28)).alloc (.cells #[.slice q b.length d] 28)) (.slice none 0 0) 28
  simp only [World.size_alloc] at Y B0
  have D := ((hr.alloc (.cells #[.slice p a.length c] 28)).alloc (.cells #[.slice q b.length d] 28)).alloc (.cells #[.slice none 0 0] 28)
  have E := ((hq.alloc (.cells #[.slice p a.length c] 28)).alloc (.cells #[.slice q b.length d] 28)).alloc (.cells #[.slice none 0 0] 28)
  have c0 := validElement_any p c a _ ha D
  have c1 := fun w' h => validElement_any q d b w' hb h
  cases hoa : okEl a
  · have hk : sumOk a b = false := by simp [sumOk, hoa]
    have hR : sumR a b = [] := by simp [sumR, hk]
    rw [hR, hk]
    rw [hoa] at c0
    have x0 := X.cell
    have C0 := Lib.hid c0; clear c0
    have Hoa := Lib.hid hoa; clear hoa
    have Hk := Lib.hid hk; clear hk
    have HR := Lib.hid hR; clear hR
    clear c1 D E X Y
    go_enter Try.func32, Try.ntmps32
    go_wp2_with fail
    refine C0.out.mono ?_
    rintro e w1 ⟨rfl, hb⟩
    replace S := S.bl hb
    have B1 := B0.bl hb
    have f0 := B1.frozen
    have f1 := B1.cell
    have e0 := (B1.set (.slice none 0 0)).cell
    go_wp2
    exact bodyPost_ret (v := .tuple #[.agg #[.slice none 0 0], .bool false]) (by simp [results, Try.results32, go_sem, e0]) rfl ⟨_, rfl, OwnSpots.nil _ _, by first | exact S.below | exact S.below.setCell (by simp; try omega) _⟩
  · cases hob : okEl b
    · have hk : sumOk a b = false := by simp [sumOk, hob]
      have hR : sumR a b = [] := by simp [sumR, hk]
      rw [hR, hk]
      rw [hoa] at c0
      simp only [hob] at c1
      have x0 := X.cell
      have C0 := Lib.hid c0; clear c0
      have C1 := Lib.hid c1; clear c1
      have Hoa := Lib.hid hoa; clear hoa
      have Hob := Lib.hid hob; clear hob
      have Hk := Lib.hid hk; clear hk
      have HR := Lib.hid hR; clear hR
      clear D
      go_enter Try.func32, Try.ntmps32
      go_wp2_with fail
      refine C0.out.mono ?_
      rintro e w1 ⟨rfl, hb⟩
      replace S := S.bl hb
      have B1 := B0.bl hb
      have E1 := E.bl hb
      have y0 := (Y.bl hb).cell
      clear hb X Y E x0
      go_wp2_with fail
      refine (C1.out _ E1).mono ?_
      rintro e w2 ⟨rfl, hb⟩
      replace S := S.bl hb
      have B2 := B1.bl hb
      have f0 := B2.frozen
      have f1 := B2.cell
      have e0 := (B2.set (.slice none 0 0)).cell
      clear y0
      go_wp2
      exact bodyPost_ret (v := .tuple #[.agg #[.slice none 0 0], .bool false]) (by simp [results, Try.results32, go_sem, e0]) rfl ⟨_, rfl, OwnSpots.nil _ _, by first | exact S.below | exact S.below.setCell (by simp; try omega) _⟩
    · have hk : sumOk a b = okEl (setL (sumL a b)) := by simp [sumOk, hoa, hob]
      have hT : toldL (setL (sumL a b)) = sumR a b := by
        rw [toldL, sumR, hk, setL_rising (set_ok _).1]
      have hT2 : okEl (setL (setL (sumL a b))) = sumOk a b := by rw [hk, setL_rising (set_ok _).1]
      rw [hoa] at c0
      simp only [hob] at c1
      obtain ⟨sa, la⟩ := okEl_small hoa
      obtain ⟨sb, lb⟩ := okEl_small hob
      have c2 := fun w' h1 h2 => sums_any p q c d a b w' (by omega) (by omega) sa sb h1 h2
      have hsl := setL_len (sumL a b)
      have hml : (setL (sumL a b)).length ≤ 1048576 := by
        rw [sumL_len] at hsl
        have := Nat.mul_le_mul la lb
        omega
      obtain ⟨M, eM⟩ : ∃ M, setL (sumL a b) = M := ⟨_, rfl⟩
      simp only [eM] at c2 hml hT hT2
      have c3 := fun B g f w' O => toldElement_g B g f M w' hml O
      rw [hT, hT2] at c3
      obtain ⟨R, eR⟩ : ∃ R, sumR a b = R := ⟨_, rfl⟩
      obtain ⟨ok, eok⟩ : ∃ ok, sumOk a b = ok := ⟨_, rfl⟩
      rw [eR, eok] at c3 ⊢
      have x0 := X.cell
      have hfl := run_offsets
      have C0 := Lib.hid c0; clear c0
      have C1 := Lib.hid c1; clear c1
      have C2 := Lib.hid c2; clear c2
      have C3 := Lib.hid c3; clear c3
      have Hoa := Lib.hid hoa; clear hoa
      have Hob := Lib.hid hob; clear hob
      have Hk := Lib.hid hk; clear hk
      have HT := Lib.hid hT; clear hT
      have HT2 := Lib.hid hT2; clear hT2
      have Sa := Lib.hid sa; clear sa
      have Sb := Lib.hid sb; clear sb
      have Hsl := Lib.hid hsl; clear hsl
      have EM := Lib.hid eM; clear eM
      have ER := Lib.hid eR; clear eR
      have Eok := Lib.hid eok; clear eok
      go_enter Try.func32, Try.ntmps32
      go_wp2_with fail
      refine C0.out.mono ?_
      rintro e w1 ⟨rfl, hb⟩
      replace S := S.bl hb
      have B1 := B0.bl hb
      have D1 := D.bl hb
      have E1 := E.bl hb
      have X1 := X.bl hb
      have Y1 := Y.bl hb
      have y0 := Y1.cell
      clear hb X Y E D x0 C0 B0
      go_wp2_with fail
      refine (C1.out _ E1).mono ?_
      rintro e w2 ⟨rfl, hb⟩
      replace S := S.bl hb
      have B2 := B1.bl hb
      have D2 := D1.bl hb
      have E2 := E1.bl hb
      have x0 := (X1.bl hb).cell
      replace y0 := (Y1.bl hb).cell
      clear hb X1 Y1 D1 E1 B1 C1
      go_wp2_with fail
      refine (C2.out _ D2 E2).mono ?_
      rintro e w3 ⟨g, f, rfl, O, hb⟩
      have hg3 := (O.ge g rfl).1
      replace S := S.bl hb
      have B3 := B2.bl hb
      have hb2 := B2.lt
      clear hb x0 y0 D2 E2 C2 B2
      go_wp2_with fail
      refine (C3.out _ g f _ O).mono ?_
      rintro e w4 ⟨v, rfl, O4, hg⟩
      obtain ⟨vp, vc, rfl⟩ : ∃ vp vc, v = .slice vp R.length vc := by obtain ⟨p', c', hv, -⟩ := O4; exact ⟨p', c', hv⟩
      have B4 := B3.grown hg (by intro e; cases e; omega)
      have S4 := S.grown hg (by omega)
      have f0 := B4.frozen
      have f1 := B4.cell
      have e0 := (B4.set (.slice vp R.length vc)).cell
      have o5 : OwnSpots w.heap.size (w4.setCell ⟨w.heap.size + 1 + 1, 0, none⟩ (.slice vp R.length vc)) (.slice vp R.length vc) R := by
        obtain ⟨p', c', hv, ho⟩ := O4
        refine ⟨p', c', hv, own_mono (own_other ho (fun e => ?_) _) (by omega)⟩
        have h9 : w2.heap.size ≤ w.heap.size + 1 + 1 := own_ge ho _ e.symm
        omega
      have s5 := S4.below.setCell (p := ⟨w.heap.size + 1 + 1, 0, none⟩) (by simp; omega) (.slice vp R.length vc)
      have O5 := Lib.hid o5; clear o5
      have S5 := Lib.hid s5; clear s5
      clear O4 O S S4 B3 B4 hg C3
      go_wp2
      exact bodyPost_ret (v := .tuple #[.agg #[.slice vp R.length vc], .bool ok]) (by simp [results, Try.results32, go_sem, e0]) rfl ⟨_, rfl, O5.out, S5.out⟩
end Go.Proofs.Ytheakjbbfdcbaaa
