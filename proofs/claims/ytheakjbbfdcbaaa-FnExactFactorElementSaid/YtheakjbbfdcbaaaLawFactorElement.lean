/- The law of FactorElement: for every input the call returns true, and the inputs read as they did. -/
import Derived.Test.YtheakjbbfdcbaaaFacP
import Derived.Test.YtheakjbbfdcbaaaFacR
import Derived.Test.YtheakjbbfdcbaaaLawMark2
set_option linter.unusedVariables false
set_option linter.unusedSimpArgs false
namespace Go.Proofs.Ytheakjbbfdcbaaa.lawFactorElement
open Go.RowKit Go.Proofs.Ytheakjbbfdcbaaa
set_option maxRecDepth 100000 in
set_option maxHeartbeats 4000000 in
theorem walk (p0 : Option Addr) (c0 : Nat) (e : List (Int × Int)) (w : World) (hn0' : e.length ≤ maxLen) (hs0' : ∀ s ∈ e, (-9223372036854775808 ≤ s.1 ∧ s.1 ≤ 9223372036854775807) ∧ (-9223372036854775808 ≤ s.2 ∧ s.2 ≤ 9223372036854775807)) (hr0' : Rd w p0 (e.length * 2) (spotAt e)) :
    Calls Try.prog 3 #[.agg #[.slice p0 e.length c0]] w fun e w' => e = .returned (.bool true) ∧ Below w.heap.size w w' := by
  rcases Int.lt_or_le (1048576 - (e.length : Int)) 0 with z0 | z0
  · have R0 := ArgRd.of_rd hr0'
    have S := Since.refl w
    replace R0 := R0.bl (bl_alloc w (.cells #[.slice p0 e.length c0] 24))
    replace S := S.bl (bl_alloc w (.cells #[.slice p0 e.length c0] 24))
    have A0 := Blk.new w #[.slice p0 e.length c0] 24
    go_enter Try.func3, Try.ntmps3
    have kA0_0 := A0.cell 0 rfl
    go_wp2_with fail
    refine (szElement_any _ _ _ _ _ hn0' (by omega) (by omega)).mono ?_
    rw [if_pos (by omega)]
    rintro e w1 ⟨rfl, hb⟩
    replace R0 := R0.bl hb
    replace S := S.bl hb
    replace A0 := A0.bl hb
    have z_1 := hb.size
    (try simp only [World.size_alloc, World.size_setCell, szDrew] at z_1)
    clear hb
    clear kA0_0
    have kA0_0 := A0.cell 0 rfl
    go_wp2
    go_ret
    exact ⟨rfl, S.below⟩
  · have hn0 : e.length ≤ 1048576 := by omega
    have zl0 : 1048576 - (e.length : Int) ≤ 1048576 := by omega
    have R0 := ArgRd.of_rd hr0'
    have S := Since.refl w
    replace R0 := R0.bl (bl_alloc w (.cells #[.slice p0 e.length c0] 24))
    replace S := S.bl (bl_alloc w (.cells #[.slice p0 e.length c0] 24))
    have A0 := Blk.new w #[.slice p0 e.length c0] 24
    go_enter Try.func3, Try.ntmps3
    have kA0_0 := A0.cell 0 rfl
    go_wp2_with fail
    refine (szElement_any _ _ _ _ _ hn0' (by omega) (by omega)).mono ?_
    rw [if_neg (by omega)]
    rintro e w1 ⟨rfl, hb⟩
    replace R0 := R0.bl hb
    replace S := S.bl hb
    replace A0 := A0.bl hb
    have z_1 := hb.size
    (try simp only [World.size_alloc, World.size_setCell, szDrew] at z_1)
    clear hb
    clear kA0_0
    have kA0_0 := A0.cell 0 rfl
    go_wp2_with fail
    refine (toElement_x R0 hn0).mono ?_
    rintro e w2 ⟨gY1, rfl, Y1, hgY1, hb⟩
    replace R0 := R0.bl hb
    replace S := S.bl hb
    replace A0 := A0.bl hb
    have z_2 := hb.size
    (try simp only [World.size_alloc, World.size_setCell, szDrew] at z_2)
    have lY1 := Y1.lt
    (try simp only [World.size_alloc, World.size_setCell, szDrew] at hgY1)
    clear hb
    clear kA0_0
    have kA0_0 := A0.cell 0 rfl
    go_wp2_with fail
    refine (sFactor_any _ _ e _ hn0 Y1.rd).mono ?_
    rintro e w3 ⟨vW0, vW1, rfl, OW0, OW1, hb, ne2W⟩
    replace R0 := R0.bl hb
    replace S := S.bl hb
    replace A0 := A0.bl hb
    replace Y1 := Y1.bl hb
    have z_3 := hb.size
    (try simp only [World.size_alloc, World.size_setCell, szDrew] at z_3)
    obtain ⟨pW0, dW0, rfl⟩ := OW0.form
    have bW0 := OW0.ge
    (try simp only [World.size_alloc, World.size_setCell, szDrew] at bW0)
    obtain ⟨pW1, dW1, rfl⟩ := OW1.form
    have bW1 := OW1.ge
    (try simp only [World.size_alloc, World.size_setCell, szDrew] at bW1)
    clear hb
    clear kA0_0
    have kA0_0 := A0.cell 0 rfl
    replace R0 := R0.bl (bl_alloc w3 (.cells #[.slice pW0 (facA e).length dW0] 28))
    replace S := S.bl (bl_alloc w3 (.cells #[.slice pW0 (facA e).length dW0] 28))
    replace A0 := A0.bl (bl_alloc w3 (.cells #[.slice pW0 (facA e).length dW0] 28))
    replace Y1 := Y1.bl (bl_alloc w3 (.cells #[.slice pW0 (facA e).length dW0] 28))
    replace OW0 := OW0.bl (bl_alloc w3 (.cells #[.slice pW0 (facA e).length dW0] 28))
    replace OW1 := OW1.bl (bl_alloc w3 (.cells #[.slice pW0 (facA e).length dW0] 28))
    have B1 := Blk.new w3 #[.slice pW0 (facA e).length dW0] 28
    (try simp only [World.size_alloc] at B1)
    clear kA0_0
    have kA0_0 := A0.cell 0 rfl
    have kB1_0 := B1.cell 0 rfl
    replace R0 := R0.bl (bl_alloc (w3.alloc (.cells #[.slice pW0 (facA e).length dW0] 28)) (.cells #[.slice pW1 (facB e).length dW1] 28))
    replace S := S.bl (bl_alloc (w3.alloc (.cells #[.slice pW0 (facA e).length dW0] 28)) (.cells #[.slice pW1 (facB e).length dW1] 28))
    replace A0 := A0.bl (bl_alloc (w3.alloc (.cells #[.slice pW0 (facA e).length dW0] 28)) (.cells #[.slice pW1 (facB e).length dW1] 28))
    replace Y1 := Y1.bl (bl_alloc (w3.alloc (.cells #[.slice pW0 (facA e).length dW0] 28)) (.cells #[.slice pW1 (facB e).length dW1] 28))
    replace OW0 := OW0.bl (bl_alloc (w3.alloc (.cells #[.slice pW0 (facA e).length dW0] 28)) (.cells #[.slice pW1 (facB e).length dW1] 28))
    replace OW1 := OW1.bl (bl_alloc (w3.alloc (.cells #[.slice pW0 (facA e).length dW0] 28)) (.cells #[.slice pW1 (facB e).length dW1] 28))
    replace B1 := B1.bl (bl_alloc (w3.alloc (.cells #[.slice pW0 (facA e).length dW0] 28)) (.cells #[.slice pW1 (facB e).length dW1] 28))
    have B2 := Blk.new (w3.alloc (.cells #[.slice pW0 (facA e).length dW0] 28)) #[.slice pW1 (facB e).length dW1] 28
    (try simp only [World.size_alloc] at B2)
    clear kA0_0 kB1_0
    have kA0_0 := A0.cell 0 rfl
    have kB1_0 := B1.cell 0 rfl
    have kB2_0 := B2.cell 0 rfl
    go_wp2_with fail
    refine (toElement_x R0 hn0).mono ?_
    rintro e w4 ⟨gY2, rfl, Y2, hgY2, hb⟩
    replace R0 := R0.bl hb
    replace S := S.bl hb
    replace A0 := A0.bl hb
    replace Y1 := Y1.bl hb
    replace OW0 := OW0.bl hb
    replace OW1 := OW1.bl hb
    replace B1 := B1.bl hb
    replace B2 := B2.bl hb
    have z_4 := hb.size
    (try simp only [World.size_alloc, World.size_setCell, szDrew] at z_4)
    have lY2 := Y2.lt
    (try simp only [World.size_alloc, World.size_setCell, szDrew] at hgY2)
    clear hb
    clear kA0_0 kB1_0 kB2_0
    have kA0_0 := A0.cell 0 rfl
    have kB1_0 := B1.cell 0 rfl
    have kB2_0 := B2.cell 0 rfl
    replace R0 := R0.bl (bl_alloc w4 (.cells #[.slice (some ⟨gY2, 0, none⟩) e.length e.length] 28))
    replace S := S.bl (bl_alloc w4 (.cells #[.slice (some ⟨gY2, 0, none⟩) e.length e.length] 28))
    replace A0 := A0.bl (bl_alloc w4 (.cells #[.slice (some ⟨gY2, 0, none⟩) e.length e.length] 28))
    replace Y1 := Y1.bl (bl_alloc w4 (.cells #[.slice (some ⟨gY2, 0, none⟩) e.length e.length] 28))
    replace OW0 := OW0.bl (bl_alloc w4 (.cells #[.slice (some ⟨gY2, 0, none⟩) e.length e.length] 28))
    replace OW1 := OW1.bl (bl_alloc w4 (.cells #[.slice (some ⟨gY2, 0, none⟩) e.length e.length] 28))
    replace B1 := B1.bl (bl_alloc w4 (.cells #[.slice (some ⟨gY2, 0, none⟩) e.length e.length] 28))
    replace B2 := B2.bl (bl_alloc w4 (.cells #[.slice (some ⟨gY2, 0, none⟩) e.length e.length] 28))
    replace Y2 := Y2.bl (bl_alloc w4 (.cells #[.slice (some ⟨gY2, 0, none⟩) e.length e.length] 28))
    have B3 := Blk.new w4 #[.slice (some ⟨gY2, 0, none⟩) e.length e.length] 28
    (try simp only [World.size_alloc] at B3)
    clear kA0_0 kB1_0 kB2_0
    have kA0_0 := A0.cell 0 rfl
    have kB1_0 := B1.cell 0 rfl
    have kB2_0 := B2.cell 0 rfl
    have kB3_0 := B3.cell 0 rfl
    go_wp2_with fail
    refine (factor_any _ _ e _ hn0 Y2.rd).mono ?_
    rintro e w5 ⟨vG0, vG1, rfl, OG0, OG1, hb, ne2G⟩
    replace R0 := R0.bl hb
    replace S := S.bl hb
    replace A0 := A0.bl hb
    replace Y1 := Y1.bl hb
    replace OW0 := OW0.bl hb
    replace OW1 := OW1.bl hb
    replace B1 := B1.bl hb
    replace B2 := B2.bl hb
    replace Y2 := Y2.bl hb
    replace B3 := B3.bl hb
    have z_5 := hb.size
    (try simp only [World.size_alloc, World.size_setCell, szDrew] at z_5)
    obtain ⟨pG0, dG0, rfl⟩ := OG0.form
    have bG0 := OG0.ge
    (try simp only [World.size_alloc, World.size_setCell, szDrew] at bG0)
    obtain ⟨pG1, dG1, rfl⟩ := OG1.form
    have bG1 := OG1.ge
    (try simp only [World.size_alloc, World.size_setCell, szDrew] at bG1)
    clear hb
    clear kA0_0 kB1_0 kB2_0 kB3_0
    have kA0_0 := A0.cell 0 rfl
    have kB1_0 := B1.cell 0 rfl
    have kB2_0 := B2.cell 0 rfl
    have kB3_0 := B3.cell 0 rfl
    replace R0 := R0.bl (bl_alloc w5 (.cells #[.slice pG0 (facA e).length dG0] 28))
    replace S := S.bl (bl_alloc w5 (.cells #[.slice pG0 (facA e).length dG0] 28))
    replace A0 := A0.bl (bl_alloc w5 (.cells #[.slice pG0 (facA e).length dG0] 28))
    replace Y1 := Y1.bl (bl_alloc w5 (.cells #[.slice pG0 (facA e).length dG0] 28))
    replace OW0 := OW0.bl (bl_alloc w5 (.cells #[.slice pG0 (facA e).length dG0] 28))
    replace OW1 := OW1.bl (bl_alloc w5 (.cells #[.slice pG0 (facA e).length dG0] 28))
    replace B1 := B1.bl (bl_alloc w5 (.cells #[.slice pG0 (facA e).length dG0] 28))
    replace B2 := B2.bl (bl_alloc w5 (.cells #[.slice pG0 (facA e).length dG0] 28))
    replace Y2 := Y2.bl (bl_alloc w5 (.cells #[.slice pG0 (facA e).length dG0] 28))
    replace B3 := B3.bl (bl_alloc w5 (.cells #[.slice pG0 (facA e).length dG0] 28))
    replace OG0 := OG0.bl (bl_alloc w5 (.cells #[.slice pG0 (facA e).length dG0] 28))
    replace OG1 := OG1.bl (bl_alloc w5 (.cells #[.slice pG0 (facA e).length dG0] 28))
    have B4 := Blk.new w5 #[.slice pG0 (facA e).length dG0] 28
    (try simp only [World.size_alloc] at B4)
    clear kA0_0 kB1_0 kB2_0 kB3_0
    have kA0_0 := A0.cell 0 rfl
    have kB1_0 := B1.cell 0 rfl
    have kB2_0 := B2.cell 0 rfl
    have kB3_0 := B3.cell 0 rfl
    have kB4_0 := B4.cell 0 rfl
    replace R0 := R0.bl (bl_alloc (w5.alloc (.cells #[.slice pG0 (facA e).length dG0] 28)) (.cells #[.slice pG1 (facB e).length dG1] 28))
    replace S := S.bl (bl_alloc (w5.alloc (.cells #[.slice pG0 (facA e).length dG0] 28)) (.cells #[.slice pG1 (facB e).length dG1] 28))
    replace A0 := A0.bl (bl_alloc (w5.alloc (.cells #[.slice pG0 (facA e).length dG0] 28)) (.cells #[.slice pG1 (facB e).length dG1] 28))
    replace Y1 := Y1.bl (bl_alloc (w5.alloc (.cells #[.slice pG0 (facA e).length dG0] 28)) (.cells #[.slice pG1 (facB e).length dG1] 28))
    replace OW0 := OW0.bl (bl_alloc (w5.alloc (.cells #[.slice pG0 (facA e).length dG0] 28)) (.cells #[.slice pG1 (facB e).length dG1] 28))
    replace OW1 := OW1.bl (bl_alloc (w5.alloc (.cells #[.slice pG0 (facA e).length dG0] 28)) (.cells #[.slice pG1 (facB e).length dG1] 28))
    replace B1 := B1.bl (bl_alloc (w5.alloc (.cells #[.slice pG0 (facA e).length dG0] 28)) (.cells #[.slice pG1 (facB e).length dG1] 28))
    replace B2 := B2.bl (bl_alloc (w5.alloc (.cells #[.slice pG0 (facA e).length dG0] 28)) (.cells #[.slice pG1 (facB e).length dG1] 28))
    replace Y2 := Y2.bl (bl_alloc (w5.alloc (.cells #[.slice pG0 (facA e).length dG0] 28)) (.cells #[.slice pG1 (facB e).length dG1] 28))
    replace B3 := B3.bl (bl_alloc (w5.alloc (.cells #[.slice pG0 (facA e).length dG0] 28)) (.cells #[.slice pG1 (facB e).length dG1] 28))
    replace OG0 := OG0.bl (bl_alloc (w5.alloc (.cells #[.slice pG0 (facA e).length dG0] 28)) (.cells #[.slice pG1 (facB e).length dG1] 28))
    replace OG1 := OG1.bl (bl_alloc (w5.alloc (.cells #[.slice pG0 (facA e).length dG0] 28)) (.cells #[.slice pG1 (facB e).length dG1] 28))
    replace B4 := B4.bl (bl_alloc (w5.alloc (.cells #[.slice pG0 (facA e).length dG0] 28)) (.cells #[.slice pG1 (facB e).length dG1] 28))
    have B5 := Blk.new (w5.alloc (.cells #[.slice pG0 (facA e).length dG0] 28)) #[.slice pG1 (facB e).length dG1] 28
    (try simp only [World.size_alloc] at B5)
    clear kA0_0 kB1_0 kB2_0 kB3_0 kB4_0
    have kA0_0 := A0.cell 0 rfl
    have kB1_0 := B1.cell 0 rfl
    have kB2_0 := B2.cell 0 rfl
    have kB3_0 := B3.cell 0 rfl
    have kB4_0 := B4.cell 0 rfl
    have kB5_0 := B5.cell 0 rfl
    go_wp2_with fail
    refine (eqElement_same _ _ _ _ (facA e) _ (facA_len e) OG0.rd OW0.rd).mono ?_
    rintro e w6 ⟨rfl, hb⟩
    replace R0 := R0.bl hb
    replace S := S.bl hb
    replace A0 := A0.bl hb
    replace Y1 := Y1.bl hb
    replace OW0 := OW0.bl hb
    replace OW1 := OW1.bl hb
    replace B1 := B1.bl hb
    replace B2 := B2.bl hb
    replace Y2 := Y2.bl hb
    replace B3 := B3.bl hb
    replace OG0 := OG0.bl hb
    replace OG1 := OG1.bl hb
    replace B4 := B4.bl hb
    replace B5 := B5.bl hb
    have z_6 := hb.size
    (try simp only [World.size_alloc, World.size_setCell, szDrew] at z_6)
    clear hb
    clear kA0_0 kB1_0 kB2_0 kB3_0 kB4_0 kB5_0
    have kA0_0 := A0.cell 0 rfl
    have kB1_0 := B1.cell 0 rfl
    have kB2_0 := B2.cell 0 rfl
    have kB3_0 := B3.cell 0 rfl
    have kB4_0 := B4.cell 0 rfl
    have kB5_0 := B5.cell 0 rfl
    go_wp2_with fail
    refine (eqElement_same _ _ _ _ (facB e) _ (facB_len e) OG1.rd OW1.rd).mono ?_
    rintro e w7 ⟨rfl, hb⟩
    replace R0 := R0.bl hb
    replace S := S.bl hb
    replace A0 := A0.bl hb
    replace Y1 := Y1.bl hb
    replace OW0 := OW0.bl hb
    replace OW1 := OW1.bl hb
    replace B1 := B1.bl hb
    replace B2 := B2.bl hb
    replace Y2 := Y2.bl hb
    replace B3 := B3.bl hb
    replace OG0 := OG0.bl hb
    replace OG1 := OG1.bl hb
    replace B4 := B4.bl hb
    replace B5 := B5.bl hb
    have z_7 := hb.size
    (try simp only [World.size_alloc, World.size_setCell, szDrew] at z_7)
    clear hb
    clear kA0_0 kB1_0 kB2_0 kB3_0 kB4_0 kB5_0
    have kA0_0 := A0.cell 0 rfl
    have kB1_0 := B1.cell 0 rfl
    have kB2_0 := B2.cell 0 rfl
    have kB3_0 := B3.cell 0 rfl
    have kB4_0 := B4.cell 0 rfl
    have kB5_0 := B5.cell 0 rfl
    have y_0 := bl_drew w7
    replace R0 := R0.bl y_0
    replace S := S.bl y_0
    replace A0 := A0.bl y_0
    replace Y1 := Y1.bl y_0
    replace OW0 := OW0.bl y_0
    replace OW1 := OW1.bl y_0
    replace B1 := B1.bl y_0
    replace B2 := B2.bl y_0
    replace Y2 := Y2.bl y_0
    replace B3 := B3.bl y_0
    replace OG0 := OG0.bl y_0
    replace OG1 := OG1.bl y_0
    replace B4 := B4.bl y_0
    replace B5 := B5.bl y_0
    clear y_0
    clear kA0_0 kB1_0 kB2_0 kB3_0 kB4_0 kB5_0
    have kB3_0 := B3.cell 0 rfl
    have kA0_0 := A0.cell 0 rfl
    go_wp2_with fail
    go_region_held3 (fun w' => w'.cell? ⟨w4.heap.size, 0, none⟩ = some (.slice (some ⟨gY2, 0, none⟩) e.length e.length) ∧ w'.cell? ⟨w.heap.size, 0, none⟩ = some (.slice p0 e.length c0))
      (first | exact ⟨B3.cell 0 rfl, A0.cell 0 rfl⟩ | exact ⟨(B3.bl hb_8).cell 0 rfl, (A0.bl hb_8).cell 0 rfl⟩ | exact ⟨((B3.bl hb_8).bl hb_9).cell 0 rfl, ((A0.bl hb_8).bl hb_9).cell 0 rfl⟩)
      ((first | (go_at_call 12; with_reducible (refine (toElement_x R0 hn0).mono ?_); rintro e w8 ⟨gY3, rfl, Y3, hgY3, hb_8⟩; have lY3 := Y3.lt) | (go_at_call 14; with_reducible (refine (eqElement_same _ _ _ _ e _ hn0 (Y2.bl hb_8).rd Y3.rd).mono ?_); rintro e w9 ⟨rfl, hb_9⟩)))
    replace R0 := R0.bl hb_8
    replace S := S.bl hb_8
    replace A0 := A0.bl hb_8
    replace Y1 := Y1.bl hb_8
    replace OW0 := OW0.bl hb_8
    replace OW1 := OW1.bl hb_8
    replace B1 := B1.bl hb_8
    replace B2 := B2.bl hb_8
    replace Y2 := Y2.bl hb_8
    replace B3 := B3.bl hb_8
    replace OG0 := OG0.bl hb_8
    replace OG1 := OG1.bl hb_8
    replace B4 := B4.bl hb_8
    replace B5 := B5.bl hb_8
    have z_8 := hb_8.size
    (try simp only [World.size_alloc, World.size_setCell, szDrew] at z_8)
    replace R0 := R0.bl hb_9
    replace S := S.bl hb_9
    replace A0 := A0.bl hb_9
    replace Y1 := Y1.bl hb_9
    replace OW0 := OW0.bl hb_9
    replace OW1 := OW1.bl hb_9
    replace B1 := B1.bl hb_9
    replace B2 := B2.bl hb_9
    replace Y2 := Y2.bl hb_9
    replace B3 := B3.bl hb_9
    replace OG0 := OG0.bl hb_9
    replace OG1 := OG1.bl hb_9
    replace B4 := B4.bl hb_9
    replace B5 := B5.bl hb_9
    replace Y3 := Y3.bl hb_9
    have z_9 := hb_9.size
    (try simp only [World.size_alloc, World.size_setCell, szDrew] at z_9)
    (try simp only [World.size_alloc, World.size_setCell, szDrew] at hgY3)
    clear hb_8 hb_9
    clear kB3_0 kA0_0
    have kA0_0 := A0.cell 0 rfl
    have kB1_0 := B1.cell 0 rfl
    have kB2_0 := B2.cell 0 rfl
    have kB3_0 := B3.cell 0 rfl
    have kB4_0 := B4.cell 0 rfl
    have kB5_0 := B5.cell 0 rfl
    go_wp2_with fail
    refine (markElement_x _ Y2 hn0 _ (by omega) (by omega)).mono ?_
    rintro e w10 ⟨rfl, hb⟩
    replace R0 := R0.grown hb (fun g e => by cases e; omega)
    replace S := S.grow hb (fun g e => by cases e; omega)
    replace A0 := A0.grow hb (fun g e => by cases e; omega)
    replace Y1 := Y1.grow hb (fun g e => by cases e; omega)
    replace OW0 := OW0.grow hb (fun k g hk e => by cases e; have := bW0 k hk; omega)
    replace OW1 := OW1.grow hb (fun k g hk e => by cases e; have := bW1 k hk; omega)
    replace B1 := B1.grow hb (fun g e => by cases e; omega)
    replace B2 := B2.grow hb (fun g e => by cases e; omega)
    replace B3 := B3.grow hb (fun g e => by cases e; omega)
    replace OG0 := OG0.grow hb (fun k g hk e => by cases e; have := bG0 k hk; omega)
    replace OG1 := OG1.grow hb (fun k g hk e => by cases e; have := bG1 k hk; omega)
    replace B4 := B4.grow hb (fun g e => by cases e; omega)
    replace B5 := B5.grow hb (fun g e => by cases e; omega)
    replace Y3 := Y3.grow hb (fun g e => by cases e; omega)
    have z_10 := hb.size
    (try simp only [World.size_alloc, World.size_setCell, szDrew] at z_10)
    clear hb
    clear kA0_0 kB1_0 kB2_0 kB3_0 kB4_0 kB5_0
    have kA0_0 := A0.cell 0 rfl
    have kB1_0 := B1.cell 0 rfl
    have kB2_0 := B2.cell 0 rfl
    have kB3_0 := B3.cell 0 rfl
    have kB4_0 := B4.cell 0 rfl
    have kB5_0 := B5.cell 0 rfl
    go_wp2_with fail
    refine (eqElement_same _ _ _ _ (facA e) _ (facA_len e) OG0.rd OW0.rd).mono ?_
    rintro e w11 ⟨rfl, hb⟩
    replace R0 := R0.bl hb
    replace S := S.bl hb
    replace A0 := A0.bl hb
    replace Y1 := Y1.bl hb
    replace OW0 := OW0.bl hb
    replace OW1 := OW1.bl hb
    replace B1 := B1.bl hb
    replace B2 := B2.bl hb
    replace B3 := B3.bl hb
    replace OG0 := OG0.bl hb
    replace OG1 := OG1.bl hb
    replace B4 := B4.bl hb
    replace B5 := B5.bl hb
    replace Y3 := Y3.bl hb
    have z_11 := hb.size
    (try simp only [World.size_alloc, World.size_setCell, szDrew] at z_11)
    clear hb
    clear kA0_0 kB1_0 kB2_0 kB3_0 kB4_0 kB5_0
    have kA0_0 := A0.cell 0 rfl
    have kB1_0 := B1.cell 0 rfl
    have kB2_0 := B2.cell 0 rfl
    have kB3_0 := B3.cell 0 rfl
    have kB4_0 := B4.cell 0 rfl
    have kB5_0 := B5.cell 0 rfl
    go_wp2_with fail
    refine (eqElement_same _ _ _ _ (facB e) _ (facB_len e) OG1.rd OW1.rd).mono ?_
    rintro e w12 ⟨rfl, hb⟩
    replace R0 := R0.bl hb
    replace S := S.bl hb
    replace A0 := A0.bl hb
    replace Y1 := Y1.bl hb
    replace OW0 := OW0.bl hb
    replace OW1 := OW1.bl hb
    replace B1 := B1.bl hb
    replace B2 := B2.bl hb
    replace B3 := B3.bl hb
    replace OG0 := OG0.bl hb
    replace OG1 := OG1.bl hb
    replace B4 := B4.bl hb
    replace B5 := B5.bl hb
    replace Y3 := Y3.bl hb
    have z_12 := hb.size
    (try simp only [World.size_alloc, World.size_setCell, szDrew] at z_12)
    clear hb
    clear kA0_0 kB1_0 kB2_0 kB3_0 kB4_0 kB5_0
    have kA0_0 := A0.cell 0 rfl
    have kB1_0 := B1.cell 0 rfl
    have kB2_0 := B2.cell 0 rfl
    have kB3_0 := B3.cell 0 rfl
    have kB4_0 := B4.cell 0 rfl
    have kB5_0 := B5.cell 0 rfl
    go_wp2_with fail
    refine (markElement_g OG0 (facA_len e)).mono ?_
    rintro e w13 ⟨rfl, M0, hb⟩
    replace R0 := R0.grown hb (fun g e => by have := bG0 g e; omega)
    replace S := S.grow hb (fun g e => by have := bG0 g e; omega)
    replace A0 := A0.grow hb (fun g e => by first | (have := bG0 g e; omega))
    replace Y1 := Y1.grow hb (fun g e => by first | (have := bG0 g e; omega))
    replace OW0 := OW0.grow hb (fun k g hk e => by first | (have := bW0 k hk; have := bG0 g e; omega) | (intro h_; subst h_; first | exact ne2G _ hk e | exact ne2G _ e hk))
    replace OW1 := OW1.grow hb (fun k g hk e => by first | (have := bW1 k hk; have := bG0 g e; omega) | (intro h_; subst h_; first | exact ne2G _ hk e | exact ne2G _ e hk))
    replace B1 := B1.grow hb (fun g e => by first | (have := bG0 g e; omega))
    replace B2 := B2.grow hb (fun g e => by first | (have := bG0 g e; omega))
    replace B3 := B3.grow hb (fun g e => by first | (have := bG0 g e; omega))
    replace OG1 := OG1.grow hb (fun k g hk e => by first | (have := bG1 k hk; have := bG0 g e; omega) | (intro h_; subst h_; first | exact ne2G _ hk e | exact ne2G _ e hk))
    replace B4 := B4.grow hb (fun g e => by first | (have := bG0 g e; omega))
    replace B5 := B5.grow hb (fun g e => by first | (have := bG0 g e; omega))
    replace Y3 := Y3.grow hb (fun g e => by first | (have := bG0 g e; omega))
    have z_13 := hb.size
    (try simp only [World.size_alloc, World.size_setCell, szDrew] at z_13)
    clear hb
    clear kA0_0 kB1_0 kB2_0 kB3_0 kB4_0 kB5_0
    have kA0_0 := A0.cell 0 rfl
    have kB1_0 := B1.cell 0 rfl
    have kB2_0 := B2.cell 0 rfl
    have kB3_0 := B3.cell 0 rfl
    have kB4_0 := B4.cell 0 rfl
    have kB5_0 := B5.cell 0 rfl
    go_wp2_with fail
    refine (markElement_2 (a := (facA e).length) OG1 (facB_len e) (facA_len e)).mono ?_
    rintro e w14 ⟨rfl, M1, hb⟩
    replace R0 := R0.grown hb (fun g e => by have := bG1 g e; omega)
    replace S := S.grow hb (fun g e => by have := bG1 g e; omega)
    replace A0 := A0.grow hb (fun g e => by first | (have := bG1 g e; omega))
    replace Y1 := Y1.grow hb (fun g e => by first | (have := bG1 g e; omega))
    replace OW0 := OW0.grow hb (fun k g hk e => by first | (have := bW0 k hk; have := bG1 g e; omega) | (intro h_; subst h_; first | exact ne2G _ hk e | exact ne2G _ e hk))
    replace OW1 := OW1.grow hb (fun k g hk e => by first | (have := bW1 k hk; have := bG1 g e; omega) | (intro h_; subst h_; first | exact ne2G _ hk e | exact ne2G _ e hk))
    replace B1 := B1.grow hb (fun g e => by first | (have := bG1 g e; omega))
    replace B2 := B2.grow hb (fun g e => by first | (have := bG1 g e; omega))
    replace B3 := B3.grow hb (fun g e => by first | (have := bG1 g e; omega))
    replace B4 := B4.grow hb (fun g e => by first | (have := bG1 g e; omega))
    replace B5 := B5.grow hb (fun g e => by first | (have := bG1 g e; omega))
    replace Y3 := Y3.grow hb (fun g e => by first | (have := bG1 g e; omega))
    replace M0 := M0.grow hb (fun k g hk e => by first | (have := bG1 g e; omega) | (intro h_; subst h_; first | exact ne2G _ (hk _ _) e | exact ne2G _ e (hk _ _)))
    have z_14 := hb.size
    (try simp only [World.size_alloc, World.size_setCell, szDrew] at z_14)
    clear hb
    clear kA0_0 kB1_0 kB2_0 kB3_0 kB4_0 kB5_0
    have kA0_0 := A0.cell 0 rfl
    have kB1_0 := B1.cell 0 rfl
    have kB2_0 := B2.cell 0 rfl
    have kB3_0 := B3.cell 0 rfl
    have kB4_0 := B4.cell 0 rfl
    have kB5_0 := B5.cell 0 rfl
    go_wp2_with fail
    refine (heldElement_g _ M0 (facA_len e)).mono ?_
    rintro e w15 ⟨rfl, hb⟩
    replace R0 := R0.bl hb
    replace S := S.bl hb
    replace A0 := A0.bl hb
    replace Y1 := Y1.bl hb
    replace OW0 := OW0.bl hb
    replace OW1 := OW1.bl hb
    replace B1 := B1.bl hb
    replace B2 := B2.bl hb
    replace B3 := B3.bl hb
    replace B4 := B4.bl hb
    replace B5 := B5.bl hb
    replace Y3 := Y3.bl hb
    replace M0 := M0.bl hb
    replace M1 := M1.bl hb
    have z_15 := hb.size
    (try simp only [World.size_alloc, World.size_setCell, szDrew] at z_15)
    clear hb
    clear kA0_0 kB1_0 kB2_0 kB3_0 kB4_0 kB5_0
    have kA0_0 := A0.cell 0 rfl
    have kB1_0 := B1.cell 0 rfl
    have kB2_0 := B2.cell 0 rfl
    have kB3_0 := B3.cell 0 rfl
    have kB4_0 := B4.cell 0 rfl
    have kB5_0 := B5.cell 0 rfl
    go_wp2_with fail
    refine (heldElement_2 (a := (facA e).length) _ M1 (facB_len e) (facA_len e)).mono ?_
    rintro e w16 ⟨rfl, hb⟩
    replace R0 := R0.bl hb
    replace S := S.bl hb
    replace A0 := A0.bl hb
    replace Y1 := Y1.bl hb
    replace OW0 := OW0.bl hb
    replace OW1 := OW1.bl hb
    replace B1 := B1.bl hb
    replace B2 := B2.bl hb
    replace B3 := B3.bl hb
    replace B4 := B4.bl hb
    replace B5 := B5.bl hb
    replace Y3 := Y3.bl hb
    replace M0 := M0.bl hb
    replace M1 := M1.bl hb
    have z_16 := hb.size
    (try simp only [World.size_alloc, World.size_setCell, szDrew] at z_16)
    clear hb
    clear kA0_0 kB1_0 kB2_0 kB3_0 kB4_0 kB5_0
    have kA0_0 := A0.cell 0 rfl
    have kB1_0 := B1.cell 0 rfl
    have kB2_0 := B2.cell 0 rfl
    have kB3_0 := B3.cell 0 rfl
    have kB4_0 := B4.cell 0 rfl
    have kB5_0 := B5.cell 0 rfl
    go_wp2_with fail
    refine (toElement_x R0 hn0).mono ?_
    rintro e w17 ⟨gY4, rfl, Y4, hgY4, hb⟩
    replace R0 := R0.bl hb
    replace S := S.bl hb
    replace A0 := A0.bl hb
    replace Y1 := Y1.bl hb
    replace OW0 := OW0.bl hb
    replace OW1 := OW1.bl hb
    replace B1 := B1.bl hb
    replace B2 := B2.bl hb
    replace B3 := B3.bl hb
    replace B4 := B4.bl hb
    replace B5 := B5.bl hb
    replace Y3 := Y3.bl hb
    replace M0 := M0.bl hb
    replace M1 := M1.bl hb
    have z_17 := hb.size
    (try simp only [World.size_alloc, World.size_setCell, szDrew] at z_17)
    have lY4 := Y4.lt
    (try simp only [World.size_alloc, World.size_setCell, szDrew] at hgY4)
    clear hb
    clear kA0_0 kB1_0 kB2_0 kB3_0 kB4_0 kB5_0
    have kA0_0 := A0.cell 0 rfl
    have kB1_0 := B1.cell 0 rfl
    have kB2_0 := B2.cell 0 rfl
    have kB3_0 := B3.cell 0 rfl
    have kB4_0 := B4.cell 0 rfl
    have kB5_0 := B5.cell 0 rfl
    go_wp2_with fail
    refine (factor_any _ _ e _ hn0 Y4.rd).mono ?_
    rintro e w18 ⟨vH0, vH1, rfl, OH0, OH1, hb, ne2H⟩
    replace R0 := R0.bl hb
    replace S := S.bl hb
    replace A0 := A0.bl hb
    replace Y1 := Y1.bl hb
    replace OW0 := OW0.bl hb
    replace OW1 := OW1.bl hb
    replace B1 := B1.bl hb
    replace B2 := B2.bl hb
    replace B3 := B3.bl hb
    replace B4 := B4.bl hb
    replace B5 := B5.bl hb
    replace Y3 := Y3.bl hb
    replace M0 := M0.bl hb
    replace M1 := M1.bl hb
    replace Y4 := Y4.bl hb
    have z_18 := hb.size
    (try simp only [World.size_alloc, World.size_setCell, szDrew] at z_18)
    obtain ⟨pH0, dH0, rfl⟩ := OH0.form
    have bH0 := OH0.ge
    (try simp only [World.size_alloc, World.size_setCell, szDrew] at bH0)
    obtain ⟨pH1, dH1, rfl⟩ := OH1.form
    have bH1 := OH1.ge
    (try simp only [World.size_alloc, World.size_setCell, szDrew] at bH1)
    clear hb
    clear kA0_0 kB1_0 kB2_0 kB3_0 kB4_0 kB5_0
    have kA0_0 := A0.cell 0 rfl
    have kB1_0 := B1.cell 0 rfl
    have kB2_0 := B2.cell 0 rfl
    have kB3_0 := B3.cell 0 rfl
    have kB4_0 := B4.cell 0 rfl
    have kB5_0 := B5.cell 0 rfl
    replace R0 := R0.bl (bl_alloc w18 (.cells #[.slice pH0 (facA e).length dH0] 28))
    replace S := S.bl (bl_alloc w18 (.cells #[.slice pH0 (facA e).length dH0] 28))
    replace A0 := A0.bl (bl_alloc w18 (.cells #[.slice pH0 (facA e).length dH0] 28))
    replace Y1 := Y1.bl (bl_alloc w18 (.cells #[.slice pH0 (facA e).length dH0] 28))
    replace OW0 := OW0.bl (bl_alloc w18 (.cells #[.slice pH0 (facA e).length dH0] 28))
    replace OW1 := OW1.bl (bl_alloc w18 (.cells #[.slice pH0 (facA e).length dH0] 28))
    replace B1 := B1.bl (bl_alloc w18 (.cells #[.slice pH0 (facA e).length dH0] 28))
    replace B2 := B2.bl (bl_alloc w18 (.cells #[.slice pH0 (facA e).length dH0] 28))
    replace B3 := B3.bl (bl_alloc w18 (.cells #[.slice pH0 (facA e).length dH0] 28))
    replace B4 := B4.bl (bl_alloc w18 (.cells #[.slice pH0 (facA e).length dH0] 28))
    replace B5 := B5.bl (bl_alloc w18 (.cells #[.slice pH0 (facA e).length dH0] 28))
    replace Y3 := Y3.bl (bl_alloc w18 (.cells #[.slice pH0 (facA e).length dH0] 28))
    replace M0 := M0.bl (bl_alloc w18 (.cells #[.slice pH0 (facA e).length dH0] 28))
    replace M1 := M1.bl (bl_alloc w18 (.cells #[.slice pH0 (facA e).length dH0] 28))
    replace Y4 := Y4.bl (bl_alloc w18 (.cells #[.slice pH0 (facA e).length dH0] 28))
    replace OH0 := OH0.bl (bl_alloc w18 (.cells #[.slice pH0 (facA e).length dH0] 28))
    replace OH1 := OH1.bl (bl_alloc w18 (.cells #[.slice pH0 (facA e).length dH0] 28))
    have B6 := Blk.new w18 #[.slice pH0 (facA e).length dH0] 28
    (try simp only [World.size_alloc] at B6)
    clear kA0_0 kB1_0 kB2_0 kB3_0 kB4_0 kB5_0
    have kA0_0 := A0.cell 0 rfl
    have kB1_0 := B1.cell 0 rfl
    have kB2_0 := B2.cell 0 rfl
    have kB3_0 := B3.cell 0 rfl
    have kB4_0 := B4.cell 0 rfl
    have kB5_0 := B5.cell 0 rfl
    have kB6_0 := B6.cell 0 rfl
    replace R0 := R0.bl (bl_alloc (w18.alloc (.cells #[.slice pH0 (facA e).length dH0] 28)) (.cells #[.slice pH1 (facB e).length dH1] 28))
    replace S := S.bl (bl_alloc (w18.alloc (.cells #[.slice pH0 (facA e).length dH0] 28)) (.cells #[.slice pH1 (facB e).length dH1] 28))
    replace A0 := A0.bl (bl_alloc (w18.alloc (.cells #[.slice pH0 (facA e).length dH0] 28)) (.cells #[.slice pH1 (facB e).length dH1] 28))
    replace Y1 := Y1.bl (bl_alloc (w18.alloc (.cells #[.slice pH0 (facA e).length dH0] 28)) (.cells #[.slice pH1 (facB e).length dH1] 28))
    replace OW0 := OW0.bl (bl_alloc (w18.alloc (.cells #[.slice pH0 (facA e).length dH0] 28)) (.cells #[.slice pH1 (facB e).length dH1] 28))
    replace OW1 := OW1.bl (bl_alloc (w18.alloc (.cells #[.slice pH0 (facA e).length dH0] 28)) (.cells #[.slice pH1 (facB e).length dH1] 28))
    replace B1 := B1.bl (bl_alloc (w18.alloc (.cells #[.slice pH0 (facA e).length dH0] 28)) (.cells #[.slice pH1 (facB e).length dH1] 28))
    replace B2 := B2.bl (bl_alloc (w18.alloc (.cells #[.slice pH0 (facA e).length dH0] 28)) (.cells #[.slice pH1 (facB e).length dH1] 28))
    replace B3 := B3.bl (bl_alloc (w18.alloc (.cells #[.slice pH0 (facA e).length dH0] 28)) (.cells #[.slice pH1 (facB e).length dH1] 28))
    replace B4 := B4.bl (bl_alloc (w18.alloc (.cells #[.slice pH0 (facA e).length dH0] 28)) (.cells #[.slice pH1 (facB e).length dH1] 28))
    replace B5 := B5.bl (bl_alloc (w18.alloc (.cells #[.slice pH0 (facA e).length dH0] 28)) (.cells #[.slice pH1 (facB e).length dH1] 28))
    replace Y3 := Y3.bl (bl_alloc (w18.alloc (.cells #[.slice pH0 (facA e).length dH0] 28)) (.cells #[.slice pH1 (facB e).length dH1] 28))
    replace M0 := M0.bl (bl_alloc (w18.alloc (.cells #[.slice pH0 (facA e).length dH0] 28)) (.cells #[.slice pH1 (facB e).length dH1] 28))
    replace M1 := M1.bl (bl_alloc (w18.alloc (.cells #[.slice pH0 (facA e).length dH0] 28)) (.cells #[.slice pH1 (facB e).length dH1] 28))
    replace Y4 := Y4.bl (bl_alloc (w18.alloc (.cells #[.slice pH0 (facA e).length dH0] 28)) (.cells #[.slice pH1 (facB e).length dH1] 28))
    replace OH0 := OH0.bl (bl_alloc (w18.alloc (.cells #[.slice pH0 (facA e).length dH0] 28)) (.cells #[.slice pH1 (facB e).length dH1] 28))
    replace OH1 := OH1.bl (bl_alloc (w18.alloc (.cells #[.slice pH0 (facA e).length dH0] 28)) (.cells #[.slice pH1 (facB e).length dH1] 28))
    replace B6 := B6.bl (bl_alloc (w18.alloc (.cells #[.slice pH0 (facA e).length dH0] 28)) (.cells #[.slice pH1 (facB e).length dH1] 28))
    have B7 := Blk.new (w18.alloc (.cells #[.slice pH0 (facA e).length dH0] 28)) #[.slice pH1 (facB e).length dH1] 28
    (try simp only [World.size_alloc] at B7)
    clear kA0_0 kB1_0 kB2_0 kB3_0 kB4_0 kB5_0 kB6_0
    have kA0_0 := A0.cell 0 rfl
    have kB1_0 := B1.cell 0 rfl
    have kB2_0 := B2.cell 0 rfl
    have kB3_0 := B3.cell 0 rfl
    have kB4_0 := B4.cell 0 rfl
    have kB5_0 := B5.cell 0 rfl
    have kB6_0 := B6.cell 0 rfl
    have kB7_0 := B7.cell 0 rfl
    go_wp2_with fail
    refine (eqElement_same _ _ _ _ (facA e) _ (facA_len e) OH0.rd OW0.rd).mono ?_
    rintro e w19 ⟨rfl, hb⟩
    replace R0 := R0.bl hb
    replace S := S.bl hb
    replace A0 := A0.bl hb
    replace Y1 := Y1.bl hb
    replace OW0 := OW0.bl hb
    replace OW1 := OW1.bl hb
    replace B1 := B1.bl hb
    replace B2 := B2.bl hb
    replace B3 := B3.bl hb
    replace B4 := B4.bl hb
    replace B5 := B5.bl hb
    replace Y3 := Y3.bl hb
    replace M0 := M0.bl hb
    replace M1 := M1.bl hb
    replace Y4 := Y4.bl hb
    replace OH0 := OH0.bl hb
    replace OH1 := OH1.bl hb
    replace B6 := B6.bl hb
    replace B7 := B7.bl hb
    have z_19 := hb.size
    (try simp only [World.size_alloc, World.size_setCell, szDrew] at z_19)
    clear hb
    clear kA0_0 kB1_0 kB2_0 kB3_0 kB4_0 kB5_0 kB6_0 kB7_0
    have kA0_0 := A0.cell 0 rfl
    have kB1_0 := B1.cell 0 rfl
    have kB2_0 := B2.cell 0 rfl
    have kB3_0 := B3.cell 0 rfl
    have kB4_0 := B4.cell 0 rfl
    have kB5_0 := B5.cell 0 rfl
    have kB6_0 := B6.cell 0 rfl
    have kB7_0 := B7.cell 0 rfl
    go_wp2_with fail
    refine (eqElement_same _ _ _ _ (facB e) _ (facB_len e) OH1.rd OW1.rd).mono ?_
    rintro e w20 ⟨rfl, hb⟩
    replace R0 := R0.bl hb
    replace S := S.bl hb
    replace A0 := A0.bl hb
    replace Y1 := Y1.bl hb
    replace OW0 := OW0.bl hb
    replace OW1 := OW1.bl hb
    replace B1 := B1.bl hb
    replace B2 := B2.bl hb
    replace B3 := B3.bl hb
    replace B4 := B4.bl hb
    replace B5 := B5.bl hb
    replace Y3 := Y3.bl hb
    replace M0 := M0.bl hb
    replace M1 := M1.bl hb
    replace Y4 := Y4.bl hb
    replace OH0 := OH0.bl hb
    replace OH1 := OH1.bl hb
    replace B6 := B6.bl hb
    replace B7 := B7.bl hb
    have z_20 := hb.size
    (try simp only [World.size_alloc, World.size_setCell, szDrew] at z_20)
    clear hb
    clear kA0_0 kB1_0 kB2_0 kB3_0 kB4_0 kB5_0 kB6_0 kB7_0
    have kA0_0 := A0.cell 0 rfl
    have kB1_0 := B1.cell 0 rfl
    have kB2_0 := B2.cell 0 rfl
    have kB3_0 := B3.cell 0 rfl
    have kB4_0 := B4.cell 0 rfl
    have kB5_0 := B5.cell 0 rfl
    have kB6_0 := B6.cell 0 rfl
    have kB7_0 := B7.cell 0 rfl
    go_wp2_with fail
    refine (heldElement_g _ M0 (facA_len e)).mono ?_
    rintro e w21 ⟨rfl, hb⟩
    replace R0 := R0.bl hb
    replace S := S.bl hb
    replace A0 := A0.bl hb
    replace Y1 := Y1.bl hb
    replace OW0 := OW0.bl hb
    replace OW1 := OW1.bl hb
    replace B1 := B1.bl hb
    replace B2 := B2.bl hb
    replace B3 := B3.bl hb
    replace B4 := B4.bl hb
    replace B5 := B5.bl hb
    replace Y3 := Y3.bl hb
    replace M0 := M0.bl hb
    replace M1 := M1.bl hb
    replace Y4 := Y4.bl hb
    replace OH0 := OH0.bl hb
    replace OH1 := OH1.bl hb
    replace B6 := B6.bl hb
    replace B7 := B7.bl hb
    have z_21 := hb.size
    (try simp only [World.size_alloc, World.size_setCell, szDrew] at z_21)
    clear hb
    clear kA0_0 kB1_0 kB2_0 kB3_0 kB4_0 kB5_0 kB6_0 kB7_0
    have kA0_0 := A0.cell 0 rfl
    have kB1_0 := B1.cell 0 rfl
    have kB2_0 := B2.cell 0 rfl
    have kB3_0 := B3.cell 0 rfl
    have kB4_0 := B4.cell 0 rfl
    have kB5_0 := B5.cell 0 rfl
    have kB6_0 := B6.cell 0 rfl
    have kB7_0 := B7.cell 0 rfl
    go_wp2_with fail
    refine (heldElement_2 (a := (facA e).length) _ M1 (facB_len e) (facA_len e)).mono ?_
    rintro e w22 ⟨rfl, hb⟩
    replace R0 := R0.bl hb
    replace S := S.bl hb
    replace A0 := A0.bl hb
    replace Y1 := Y1.bl hb
    replace OW0 := OW0.bl hb
    replace OW1 := OW1.bl hb
    replace B1 := B1.bl hb
    replace B2 := B2.bl hb
    replace B3 := B3.bl hb
    replace B4 := B4.bl hb
    replace B5 := B5.bl hb
    replace Y3 := Y3.bl hb
    replace M0 := M0.bl hb
    replace M1 := M1.bl hb
    replace Y4 := Y4.bl hb
    replace OH0 := OH0.bl hb
    replace OH1 := OH1.bl hb
    replace B6 := B6.bl hb
    replace B7 := B7.bl hb
    have z_22 := hb.size
    (try simp only [World.size_alloc, World.size_setCell, szDrew] at z_22)
    clear hb
    clear kA0_0 kB1_0 kB2_0 kB3_0 kB4_0 kB5_0 kB6_0 kB7_0
    have kA0_0 := A0.cell 0 rfl
    have kB1_0 := B1.cell 0 rfl
    have kB2_0 := B2.cell 0 rfl
    have kB3_0 := B3.cell 0 rfl
    have kB4_0 := B4.cell 0 rfl
    have kB5_0 := B5.cell 0 rfl
    have kB6_0 := B6.cell 0 rfl
    have kB7_0 := B7.cell 0 rfl
    clear kA0_0 kB1_0 kB2_0 kB3_0 kB4_0 kB5_0 kB6_0 kB7_0
    have kA0_0 := A0.cell 0 rfl
    have kB1_0 := B1.cell 0 rfl
    have kB2_0 := B2.cell 0 rfl
    have kB3_0 := B3.cell 0 rfl
    have kB4_0 := B4.cell 0 rfl
    have kB5_0 := B5.cell 0 rfl
    have kB6_0 := B6.cell 0 rfl
    have kB7_0 := B7.cell 0 rfl
    go_wp2
    go_ret
    exact ⟨rfl, S.below⟩
open Go.ChangeShapes Go.WideShapes Go.ChangeAt
open Go.ChangeMaps (open_string shut_string)

set_option maxRecDepth 100000 in
theorem lifted (os : Os) (started : os.Started) (H : Type) (enc : TypeId × Value → H) :
    ReturnsInHanded {} Try.checked os 3 .any (Rows.fnExactFactorElementSpec.pre6 enc Try.prog Try.f3 Rows.fnExactFactorElementRow.domain false) (Rows.fnExactFactorElementSpec.post enc Try.prog Try.f3 false true false false) := by
  refine returnsInHanded_of_change (C := Try.checked) own started (by kernel_rfl) Try.func3
    (ChangeSpec.witness6 (enc := enc) (C := Try.checked) false ⟨#[], #[.agg #[.slice none 0 0]], []⟩ 8 (by kernel_rfl) (by kernel_rfl) (by kernel_rfl) (by kernel_rfl)) ?_
  intro W base args ds gs before hval0 hW hcnd _
  have hval : ∀ (j : Nat) t v, Try.f3.params[j]? = some t → args[j]? = some v → Value.okWide Try.prog W .any base t v := hval0
  have hW' := hW
  obtain ⟨p, q, hA0, hV, rfl, hfz, hnd⟩ := hW
  have hA : DataW.TrodAll enc Try.prog W 0 (fun _ => true) true Try.f3.params.toList args.toList ds p := hA0
  rw [Try.params3] at hA hval
  obtain ⟨v0, vs0, d0, ds0, p0, q0, hargs, rfl, rfl, h0, r0⟩ := trodAll_cons hA
  obtain ⟨rfl, rfl, rfl⟩ := trodAll_nil r0
  obtain rfl : args = #[v0] := by cases args; simp_all
  obtain ⟨rfl, rfl⟩ := trodVars_none hV
  have t0 : ∀ x ∈ p0, x.block < W.heap.size := fun x hx => hW'.lt x (by simp [hx])
  have k0 := hval 0 24 v0 rfl rfl
  have m0 := h0
  obtain ⟨p0', c0', l0', rfl, p0'n, p0's, p0'r⟩ := open_Element k0 h0
  refine (walk p0' c0' l0' W p0'n p0's p0'r).mono fun e W' ⟨he, hb⟩ => ?_
  subst he
  refine ⟨_, rfl, _, _, _, [], _, [], hW', trodAll_mk1 (shut_bool Try.underlying4 _), (trodAll_cons_mk (Below.trod laidOut (by kernel_rfl) (of_decide_eq_true (by kernel_rfl)) m0 hb t0) trodAll_mk0), rfl, hb.frame _, fun h => by cases h⟩

theorem over : Rows.fnExactFactorElementRow.holds Try.pinned (OpenSpec.ofChange Rows.fnExactFactorElementSpec) :=
  OpenClaim.holds_of_wide 3 Try.f3 rfl rfl rfl rfl rfl rfl rfl ⟨rfl, rfl, rfl, rfl, rfl⟩ rfl rfl rfl rfl rfl (by kernel_rfl) Try.func3 (by kernel_rfl)
    (of_decide_eq_true (by kernel_rfl)) (by unfold Func.isWrapper; first | (rw [if_pos (by decide +kernel)]; kernel_rfl) | (rw [if_neg (by decide +kernel)]; exact ⟨rfl, rfl⟩))
    (fun os started H enc _ => lifted os started H enc)

theorem proved : Rows.FnExactFactorElementSaid := over
#print axioms proved
end Go.Proofs.Ytheakjbbfdcbaaa.lawFactorElement
