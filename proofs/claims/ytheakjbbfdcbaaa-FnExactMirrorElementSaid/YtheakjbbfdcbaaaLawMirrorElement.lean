/- The law of MirrorElement: for every input the call returns true, and the inputs read as they did. -/
import Derived.Test.YtheakjbbfdcbaaaElemMirI
import Derived.Test.YtheakjbbfdcbaaaLawElem
import Derived.Test.YtheakjbbfdcbaaaOpen2
set_option linter.unusedVariables false
set_option linter.unusedSimpArgs false
namespace Go.Proofs.Ytheakjbbfdcbaaa.lawMirrorElement
open Go.RowKit Go.Proofs.Ytheakjbbfdcbaaa
set_option maxRecDepth 100000 in
set_option maxHeartbeats 4000000 in
theorem walk (p0 : Option Addr) (c0 : Nat) (l : List (Int × Int)) (w : World) (hn0' : l.length ≤ maxLen) (hs0' : ∀ s ∈ l, (-9223372036854775808 ≤ s.1 ∧ s.1 ≤ 9223372036854775807) ∧ (-9223372036854775808 ≤ s.2 ∧ s.2 ≤ 9223372036854775807)) (hr0' : Rd w p0 (l.length * 2) (spotAt l)) :
    Calls Try.prog 8 #[.agg #[.slice p0 l.length c0]] w fun e w' => e = .returned (.bool true) ∧ Below w.heap.size w w' := by
  rcases Int.lt_or_le (1048576 - (l.length : Int)) 0 with z0 | z0
  · have R0 := ArgRd.of_rd hr0'
    have S := Since.refl w
    replace R0 := R0.bl (bl_alloc w (.cells #[.slice p0 l.length c0] 24))
    replace S := S.bl (bl_alloc w (.cells #[.slice p0 l.length c0] 24))
    have A0 := Blk.new w #[.slice p0 l.length c0] 24
    go_enter Try.func8, Try.ntmps8
    have kA0_0 := A0.cell 0 rfl
    go_wp2_with fail
    refine (szElement_any _ _ _ _ _ hn0' (by omega) (by omega)).mono ?_
    rw [if_pos (by omega)]
    rintro e w1 ⟨rfl, hb⟩
    replace R0 := R0.bl hb
    replace S := S.bl hb
    replace A0 := A0.bl hb
    have z_1 := hb.size
    (try simp only [World.size_alloc, World.size_setCell, szDrew] at z_1)
    clear hb
    clear kA0_0
    have kA0_0 := A0.cell 0 rfl
    go_wp2
    go_ret
    exact ⟨rfl, S.below⟩
  · have hn0 : l.length ≤ 1048576 := by omega
    have zl0 : 1048576 - (l.length : Int) ≤ 1048576 := by omega
    have R0 := ArgRd.of_rd hr0'
    have S := Since.refl w
    replace R0 := R0.bl (bl_alloc w (.cells #[.slice p0 l.length c0] 24))
    replace S := S.bl (bl_alloc w (.cells #[.slice p0 l.length c0] 24))
    have A0 := Blk.new w #[.slice p0 l.length c0] 24
    go_enter Try.func8, Try.ntmps8
    have kA0_0 := A0.cell 0 rfl
    go_wp2_with fail
    refine (szElement_any _ _ _ _ _ hn0' (by omega) (by omega)).mono ?_
    rw [if_neg (by omega)]
    rintro e w1 ⟨rfl, hb⟩
    replace R0 := R0.bl hb
    replace S := S.bl hb
    replace A0 := A0.bl hb
    have z_1 := hb.size
    (try simp only [World.size_alloc, World.size_setCell, szDrew] at z_1)
    clear hb
    clear kA0_0
    have kA0_0 := A0.cell 0 rfl
    go_wp2_with fail
    refine (toElement_x R0 hn0).mono ?_
    rintro e w2 ⟨gY1, rfl, Y1, hgY1, hb⟩
    replace R0 := R0.bl hb
    replace S := S.bl hb
    replace A0 := A0.bl hb
    have z_2 := hb.size
    (try simp only [World.size_alloc, World.size_setCell, szDrew] at z_2)
    have lY1 := Y1.lt
    (try simp only [World.size_alloc, World.size_setCell, szDrew] at hgY1)
    clear hb
    clear kA0_0
    have kA0_0 := A0.cell 0 rfl
    go_wp2_with fail
    refine (sMirror_any _ _ l _ hn0 Y1.rd).mono ?_
    rintro e w3 ⟨vW0, rfl, OW0, hb⟩
    replace R0 := R0.bl hb
    replace S := S.bl hb
    replace A0 := A0.bl hb
    replace Y1 := Y1.bl hb
    have z_3 := hb.size
    (try simp only [World.size_alloc, World.size_setCell, szDrew] at z_3)
    obtain ⟨pW0, dW0, rfl⟩ := OW0.form
    have bW0 := OW0.ge
    (try simp only [World.size_alloc, World.size_setCell, szDrew] at bW0)
    clear hb
    clear kA0_0
    have kA0_0 := A0.cell 0 rfl
    replace R0 := R0.bl (bl_alloc w3 (.cells #[.slice pW0 (mirR l).length dW0] 28))
    replace S := S.bl (bl_alloc w3 (.cells #[.slice pW0 (mirR l).length dW0] 28))
    replace A0 := A0.bl (bl_alloc w3 (.cells #[.slice pW0 (mirR l).length dW0] 28))
    replace Y1 := Y1.bl (bl_alloc w3 (.cells #[.slice pW0 (mirR l).length dW0] 28))
    replace OW0 := OW0.bl (bl_alloc w3 (.cells #[.slice pW0 (mirR l).length dW0] 28))
    have B1 := Blk.new w3 #[.slice pW0 (mirR l).length dW0] 28
    (try simp only [World.size_alloc] at B1)
    clear kA0_0
    have kA0_0 := A0.cell 0 rfl
    have kB1_0 := B1.cell 0 rfl
    go_wp2_with fail
    refine (toElement_x R0 hn0).mono ?_
    rintro e w4 ⟨gY2, rfl, Y2, hgY2, hb⟩
    replace R0 := R0.bl hb
    replace S := S.bl hb
    replace A0 := A0.bl hb
    replace Y1 := Y1.bl hb
    replace OW0 := OW0.bl hb
    replace B1 := B1.bl hb
    have z_4 := hb.size
    (try simp only [World.size_alloc, World.size_setCell, szDrew] at z_4)
    have lY2 := Y2.lt
    (try simp only [World.size_alloc, World.size_setCell, szDrew] at hgY2)
    clear hb
    clear kA0_0 kB1_0
    have kA0_0 := A0.cell 0 rfl
    have kB1_0 := B1.cell 0 rfl
    replace R0 := R0.bl (bl_alloc w4 (.cells #[.slice (some ⟨gY2, 0, none⟩) l.length l.length] 28))
    replace S := S.bl (bl_alloc w4 (.cells #[.slice (some ⟨gY2, 0, none⟩) l.length l.length] 28))
    replace A0 := A0.bl (bl_alloc w4 (.cells #[.slice (some ⟨gY2, 0, none⟩) l.length l.length] 28))
    replace Y1 := Y1.bl (bl_alloc w4 (.cells #[.slice (some ⟨gY2, 0, none⟩) l.length l.length] 28))
    replace OW0 := OW0.bl (bl_alloc w4 (.cells #[.slice (some ⟨gY2, 0, none⟩) l.length l.length] 28))
    replace B1 := B1.bl (bl_alloc w4 (.cells #[.slice (some ⟨gY2, 0, none⟩) l.length l.length] 28))
    replace Y2 := Y2.bl (bl_alloc w4 (.cells #[.slice (some ⟨gY2, 0, none⟩) l.length l.length] 28))
    have B2 := Blk.new w4 #[.slice (some ⟨gY2, 0, none⟩) l.length l.length] 28
    (try simp only [World.size_alloc] at B2)
    clear kA0_0 kB1_0
    have kA0_0 := A0.cell 0 rfl
    have kB1_0 := B1.cell 0 rfl
    have kB2_0 := B2.cell 0 rfl
    go_wp2_with fail
    refine (mirror_any _ _ l _ hn0 Y2.rd).mono ?_
    rintro e w5 ⟨vG0, rfl, OG0, hb⟩
    replace R0 := R0.bl hb
    replace S := S.bl hb
    replace A0 := A0.bl hb
    replace Y1 := Y1.bl hb
    replace OW0 := OW0.bl hb
    replace B1 := B1.bl hb
    replace Y2 := Y2.bl hb
    replace B2 := B2.bl hb
    have z_5 := hb.size
    (try simp only [World.size_alloc, World.size_setCell, szDrew] at z_5)
    obtain ⟨pG0, dG0, rfl⟩ := OG0.form
    have bG0 := OG0.ge
    (try simp only [World.size_alloc, World.size_setCell, szDrew] at bG0)
    clear hb
    clear kA0_0 kB1_0 kB2_0
    have kA0_0 := A0.cell 0 rfl
    have kB1_0 := B1.cell 0 rfl
    have kB2_0 := B2.cell 0 rfl
    replace R0 := R0.bl (bl_alloc w5 (.cells #[.slice pG0 (mirR l).length dG0] 28))
    replace S := S.bl (bl_alloc w5 (.cells #[.slice pG0 (mirR l).length dG0] 28))
    replace A0 := A0.bl (bl_alloc w5 (.cells #[.slice pG0 (mirR l).length dG0] 28))
    replace Y1 := Y1.bl (bl_alloc w5 (.cells #[.slice pG0 (mirR l).length dG0] 28))
    replace OW0 := OW0.bl (bl_alloc w5 (.cells #[.slice pG0 (mirR l).length dG0] 28))
    replace B1 := B1.bl (bl_alloc w5 (.cells #[.slice pG0 (mirR l).length dG0] 28))
    replace Y2 := Y2.bl (bl_alloc w5 (.cells #[.slice pG0 (mirR l).length dG0] 28))
    replace B2 := B2.bl (bl_alloc w5 (.cells #[.slice pG0 (mirR l).length dG0] 28))
    replace OG0 := OG0.bl (bl_alloc w5 (.cells #[.slice pG0 (mirR l).length dG0] 28))
    have B3 := Blk.new w5 #[.slice pG0 (mirR l).length dG0] 28
    (try simp only [World.size_alloc] at B3)
    clear kA0_0 kB1_0 kB2_0
    have kA0_0 := A0.cell 0 rfl
    have kB1_0 := B1.cell 0 rfl
    have kB2_0 := B2.cell 0 rfl
    have kB3_0 := B3.cell 0 rfl
    go_wp2_with fail
    refine (eqElement_same _ _ _ _ (mirR l) _ (mirR_len l) OG0.rd OW0.rd).mono ?_
    rintro e w6 ⟨rfl, hb⟩
    replace R0 := R0.bl hb
    replace S := S.bl hb
    replace A0 := A0.bl hb
    replace Y1 := Y1.bl hb
    replace OW0 := OW0.bl hb
    replace B1 := B1.bl hb
    replace Y2 := Y2.bl hb
    replace B2 := B2.bl hb
    replace OG0 := OG0.bl hb
    replace B3 := B3.bl hb
    have z_6 := hb.size
    (try simp only [World.size_alloc, World.size_setCell, szDrew] at z_6)
    clear hb
    clear kA0_0 kB1_0 kB2_0 kB3_0
    have kA0_0 := A0.cell 0 rfl
    have kB1_0 := B1.cell 0 rfl
    have kB2_0 := B2.cell 0 rfl
    have kB3_0 := B3.cell 0 rfl
    have y_0 := bl_drew w6
    replace R0 := R0.bl y_0
    replace S := S.bl y_0
    replace A0 := A0.bl y_0
    replace Y1 := Y1.bl y_0
    replace OW0 := OW0.bl y_0
    replace B1 := B1.bl y_0
    replace Y2 := Y2.bl y_0
    replace B2 := B2.bl y_0
    replace OG0 := OG0.bl y_0
    replace B3 := B3.bl y_0
    clear y_0
    clear kA0_0 kB1_0 kB2_0 kB3_0
    have kB2_0 := B2.cell 0 rfl
    have kA0_0 := A0.cell 0 rfl
    go_wp2_with fail
    go_region_held3 (fun w' => w'.cell? ⟨w4.heap.size, 0, none⟩ = some (.slice (some ⟨gY2, 0, none⟩) l.length l.length) ∧ w'.cell? ⟨w.heap.size, 0, none⟩ = some (.slice p0 l.length c0))
      (first | exact ⟨B2.cell 0 rfl, A0.cell 0 rfl⟩ | exact ⟨(B2.bl hb_7).cell 0 rfl, (A0.bl hb_7).cell 0 rfl⟩ | exact ⟨((B2.bl hb_7).bl hb_8).cell 0 rfl, ((A0.bl hb_7).bl hb_8).cell 0 rfl⟩)
      ((first | (go_at_call 12; with_reducible (refine (toElement_x R0 hn0).mono ?_); rintro e w7 ⟨gY3, rfl, Y3, hgY3, hb_7⟩; have lY3 := Y3.lt) | (go_at_call 14; with_reducible (refine (eqElement_same _ _ _ _ l _ hn0 (Y2.bl hb_7).rd Y3.rd).mono ?_); rintro e w8 ⟨rfl, hb_8⟩)))
    replace R0 := R0.bl hb_7
    replace S := S.bl hb_7
    replace A0 := A0.bl hb_7
    replace Y1 := Y1.bl hb_7
    replace OW0 := OW0.bl hb_7
    replace B1 := B1.bl hb_7
    replace Y2 := Y2.bl hb_7
    replace B2 := B2.bl hb_7
    replace OG0 := OG0.bl hb_7
    replace B3 := B3.bl hb_7
    have z_7 := hb_7.size
    (try simp only [World.size_alloc, World.size_setCell, szDrew] at z_7)
    replace R0 := R0.bl hb_8
    replace S := S.bl hb_8
    replace A0 := A0.bl hb_8
    replace Y1 := Y1.bl hb_8
    replace OW0 := OW0.bl hb_8
    replace B1 := B1.bl hb_8
    replace Y2 := Y2.bl hb_8
    replace B2 := B2.bl hb_8
    replace OG0 := OG0.bl hb_8
    replace B3 := B3.bl hb_8
    replace Y3 := Y3.bl hb_8
    have z_8 := hb_8.size
    (try simp only [World.size_alloc, World.size_setCell, szDrew] at z_8)
    (try simp only [World.size_alloc, World.size_setCell, szDrew] at hgY3)
    clear hb_7 hb_8
    clear kB2_0 kA0_0
    have kA0_0 := A0.cell 0 rfl
    have kB1_0 := B1.cell 0 rfl
    have kB2_0 := B2.cell 0 rfl
    have kB3_0 := B3.cell 0 rfl
    go_wp2_with fail
    refine (markElement_x _ Y2 hn0 _ (by omega) (by omega)).mono ?_
    rintro e w9 ⟨rfl, hb⟩
    replace R0 := R0.grown hb (fun g e => by cases e; omega)
    replace S := S.grow hb (fun g e => by cases e; omega)
    replace A0 := A0.grow hb (fun g e => by cases e; omega)
    replace Y1 := Y1.grow hb (fun g e => by cases e; omega)
    replace OW0 := OW0.grow hb (fun k g hk e => by cases e; have := bW0 k hk; omega)
    replace B1 := B1.grow hb (fun g e => by cases e; omega)
    replace B2 := B2.grow hb (fun g e => by cases e; omega)
    replace OG0 := OG0.grow hb (fun k g hk e => by cases e; have := bG0 k hk; omega)
    replace B3 := B3.grow hb (fun g e => by cases e; omega)
    replace Y3 := Y3.grow hb (fun g e => by cases e; omega)
    have z_9 := hb.size
    (try simp only [World.size_alloc, World.size_setCell, szDrew] at z_9)
    clear hb
    clear kA0_0 kB1_0 kB2_0 kB3_0
    have kA0_0 := A0.cell 0 rfl
    have kB1_0 := B1.cell 0 rfl
    have kB2_0 := B2.cell 0 rfl
    have kB3_0 := B3.cell 0 rfl
    go_wp2_with fail
    refine (eqElement_same _ _ _ _ (mirR l) _ (mirR_len l) OG0.rd OW0.rd).mono ?_
    rintro e w10 ⟨rfl, hb⟩
    replace R0 := R0.bl hb
    replace S := S.bl hb
    replace A0 := A0.bl hb
    replace Y1 := Y1.bl hb
    replace OW0 := OW0.bl hb
    replace B1 := B1.bl hb
    replace B2 := B2.bl hb
    replace OG0 := OG0.bl hb
    replace B3 := B3.bl hb
    replace Y3 := Y3.bl hb
    have z_10 := hb.size
    (try simp only [World.size_alloc, World.size_setCell, szDrew] at z_10)
    clear hb
    clear kA0_0 kB1_0 kB2_0 kB3_0
    have kA0_0 := A0.cell 0 rfl
    have kB1_0 := B1.cell 0 rfl
    have kB2_0 := B2.cell 0 rfl
    have kB3_0 := B3.cell 0 rfl
    go_wp2_with fail
    refine (markElement_g OG0 (mirR_len l)).mono ?_
    rintro e w11 ⟨rfl, M0, hb⟩
    replace R0 := R0.grown hb (fun g e => by have := bG0 g e; omega)
    replace S := S.grow hb (fun g e => by have := bG0 g e; omega)
    replace A0 := A0.grow hb (fun g e => by first | (have := bG0 g e; omega))
    replace Y1 := Y1.grow hb (fun g e => by first | (have := bG0 g e; omega))
    replace OW0 := OW0.grow hb (fun k g hk e => by have := bW0 k hk; have := bG0 g e; omega)
    replace B1 := B1.grow hb (fun g e => by first | (have := bG0 g e; omega))
    replace B2 := B2.grow hb (fun g e => by first | (have := bG0 g e; omega))
    replace B3 := B3.grow hb (fun g e => by first | (have := bG0 g e; omega))
    replace Y3 := Y3.grow hb (fun g e => by first | (have := bG0 g e; omega))
    have z_11 := hb.size
    (try simp only [World.size_alloc, World.size_setCell, szDrew] at z_11)
    clear hb
    clear kA0_0 kB1_0 kB2_0 kB3_0
    have kA0_0 := A0.cell 0 rfl
    have kB1_0 := B1.cell 0 rfl
    have kB2_0 := B2.cell 0 rfl
    have kB3_0 := B3.cell 0 rfl
    go_wp2_with fail
    refine (heldElement_g _ M0 (mirR_len l)).mono ?_
    rintro e w12 ⟨rfl, hb⟩
    replace R0 := R0.bl hb
    replace S := S.bl hb
    replace A0 := A0.bl hb
    replace Y1 := Y1.bl hb
    replace OW0 := OW0.bl hb
    replace B1 := B1.bl hb
    replace B2 := B2.bl hb
    replace B3 := B3.bl hb
    replace Y3 := Y3.bl hb
    replace M0 := M0.bl hb
    have z_12 := hb.size
    (try simp only [World.size_alloc, World.size_setCell, szDrew] at z_12)
    clear hb
    clear kA0_0 kB1_0 kB2_0 kB3_0
    have kA0_0 := A0.cell 0 rfl
    have kB1_0 := B1.cell 0 rfl
    have kB2_0 := B2.cell 0 rfl
    have kB3_0 := B3.cell 0 rfl
    go_wp2_with fail
    refine (toElement_x R0 hn0).mono ?_
    rintro e w13 ⟨gY4, rfl, Y4, hgY4, hb⟩
    replace R0 := R0.bl hb
    replace S := S.bl hb
    replace A0 := A0.bl hb
    replace Y1 := Y1.bl hb
    replace OW0 := OW0.bl hb
    replace B1 := B1.bl hb
    replace B2 := B2.bl hb
    replace B3 := B3.bl hb
    replace Y3 := Y3.bl hb
    replace M0 := M0.bl hb
    have z_13 := hb.size
    (try simp only [World.size_alloc, World.size_setCell, szDrew] at z_13)
    have lY4 := Y4.lt
    (try simp only [World.size_alloc, World.size_setCell, szDrew] at hgY4)
    clear hb
    clear kA0_0 kB1_0 kB2_0 kB3_0
    have kA0_0 := A0.cell 0 rfl
    have kB1_0 := B1.cell 0 rfl
    have kB2_0 := B2.cell 0 rfl
    have kB3_0 := B3.cell 0 rfl
    go_wp2_with fail
    refine (mirror_any _ _ l _ hn0 Y4.rd).mono ?_
    rintro e w14 ⟨vH0, rfl, OH0, hb⟩
    replace R0 := R0.bl hb
    replace S := S.bl hb
    replace A0 := A0.bl hb
    replace Y1 := Y1.bl hb
    replace OW0 := OW0.bl hb
    replace B1 := B1.bl hb
    replace B2 := B2.bl hb
    replace B3 := B3.bl hb
    replace Y3 := Y3.bl hb
    replace M0 := M0.bl hb
    replace Y4 := Y4.bl hb
    have z_14 := hb.size
    (try simp only [World.size_alloc, World.size_setCell, szDrew] at z_14)
    obtain ⟨pH0, dH0, rfl⟩ := OH0.form
    have bH0 := OH0.ge
    (try simp only [World.size_alloc, World.size_setCell, szDrew] at bH0)
    clear hb
    clear kA0_0 kB1_0 kB2_0 kB3_0
    have kA0_0 := A0.cell 0 rfl
    have kB1_0 := B1.cell 0 rfl
    have kB2_0 := B2.cell 0 rfl
    have kB3_0 := B3.cell 0 rfl
    replace R0 := R0.bl (bl_alloc w14 (.cells #[.slice pH0 (mirR l).length dH0] 28))
    replace S := S.bl (bl_alloc w14 (.cells #[.slice pH0 (mirR l).length dH0] 28))
    replace A0 := A0.bl (bl_alloc w14 (.cells #[.slice pH0 (mirR l).length dH0] 28))
    replace Y1 := Y1.bl (bl_alloc w14 (.cells #[.slice pH0 (mirR l).length dH0] 28))
    replace OW0 := OW0.bl (bl_alloc w14 (.cells #[.slice pH0 (mirR l).length dH0] 28))
    replace B1 := B1.bl (bl_alloc w14 (.cells #[.slice pH0 (mirR l).length dH0] 28))
    replace B2 := B2.bl (bl_alloc w14 (.cells #[.slice pH0 (mirR l).length dH0] 28))
    replace B3 := B3.bl (bl_alloc w14 (.cells #[.slice pH0 (mirR l).length dH0] 28))
    replace Y3 := Y3.bl (bl_alloc w14 (.cells #[.slice pH0 (mirR l).length dH0] 28))
    replace M0 := M0.bl (bl_alloc w14 (.cells #[.slice pH0 (mirR l).length dH0] 28))
    replace Y4 := Y4.bl (bl_alloc w14 (.cells #[.slice pH0 (mirR l).length dH0] 28))
    replace OH0 := OH0.bl (bl_alloc w14 (.cells #[.slice pH0 (mirR l).length dH0] 28))
    have B4 := Blk.new w14 #[.slice pH0 (mirR l).length dH0] 28
    (try simp only [World.size_alloc] at B4)
    clear kA0_0 kB1_0 kB2_0 kB3_0
    have kA0_0 := A0.cell 0 rfl
    have kB1_0 := B1.cell 0 rfl
    have kB2_0 := B2.cell 0 rfl
    have kB3_0 := B3.cell 0 rfl
    have kB4_0 := B4.cell 0 rfl
    go_wp2_with fail
    refine (eqElement_same _ _ _ _ (mirR l) _ (mirR_len l) OH0.rd OW0.rd).mono ?_
    rintro e w15 ⟨rfl, hb⟩
    replace R0 := R0.bl hb
    replace S := S.bl hb
    replace A0 := A0.bl hb
    replace Y1 := Y1.bl hb
    replace OW0 := OW0.bl hb
    replace B1 := B1.bl hb
    replace B2 := B2.bl hb
    replace B3 := B3.bl hb
    replace Y3 := Y3.bl hb
    replace M0 := M0.bl hb
    replace Y4 := Y4.bl hb
    replace OH0 := OH0.bl hb
    replace B4 := B4.bl hb
    have z_15 := hb.size
    (try simp only [World.size_alloc, World.size_setCell, szDrew] at z_15)
    clear hb
    clear kA0_0 kB1_0 kB2_0 kB3_0 kB4_0
    have kA0_0 := A0.cell 0 rfl
    have kB1_0 := B1.cell 0 rfl
    have kB2_0 := B2.cell 0 rfl
    have kB3_0 := B3.cell 0 rfl
    have kB4_0 := B4.cell 0 rfl
    go_wp2_with fail
    refine (heldElement_g _ M0 (mirR_len l)).mono ?_
    rintro e w16 ⟨rfl, hb⟩
    replace R0 := R0.bl hb
    replace S := S.bl hb
    replace A0 := A0.bl hb
    replace Y1 := Y1.bl hb
    replace OW0 := OW0.bl hb
    replace B1 := B1.bl hb
    replace B2 := B2.bl hb
    replace B3 := B3.bl hb
    replace Y3 := Y3.bl hb
    replace M0 := M0.bl hb
    replace Y4 := Y4.bl hb
    replace OH0 := OH0.bl hb
    replace B4 := B4.bl hb
    have z_16 := hb.size
    (try simp only [World.size_alloc, World.size_setCell, szDrew] at z_16)
    clear hb
    clear kA0_0 kB1_0 kB2_0 kB3_0 kB4_0
    have kA0_0 := A0.cell 0 rfl
    have kB1_0 := B1.cell 0 rfl
    have kB2_0 := B2.cell 0 rfl
    have kB3_0 := B3.cell 0 rfl
    have kB4_0 := B4.cell 0 rfl
    clear kA0_0 kB1_0 kB2_0 kB3_0 kB4_0
    have kA0_0 := A0.cell 0 rfl
    have kB1_0 := B1.cell 0 rfl
    have kB2_0 := B2.cell 0 rfl
    have kB3_0 := B3.cell 0 rfl
    have kB4_0 := B4.cell 0 rfl
    go_wp2
    go_ret
    exact ⟨rfl, S.below⟩
open Go.ChangeShapes Go.WideShapes Go.ChangeAt
open Go.ChangeMaps (open_string shut_string)

set_option maxRecDepth 100000 in
theorem lifted (os : Os) (started : os.Started) (H : Type) (enc : TypeId × Value → H) :
    ReturnsInHanded {} Try.checked os 8 .any (Rows.fnExactMirrorElementSpec.pre6 enc Try.prog Try.f8 Rows.fnExactMirrorElementRow.domain false) (Rows.fnExactMirrorElementSpec.post enc Try.prog Try.f8 false true false false) := by
  refine returnsInHanded_of_change (C := Try.checked) own started (by kernel_rfl) Try.func8
    (ChangeSpec.witness6 (enc := enc) (C := Try.checked) false ⟨#[], #[.agg #[.slice none 0 0]], []⟩ 8 (by kernel_rfl) (by kernel_rfl) (by kernel_rfl) (by kernel_rfl)) ?_
  intro W base args ds gs before hval0 hW hcnd _
  have hval : ∀ (j : Nat) t v, Try.f8.params[j]? = some t → args[j]? = some v → Value.okWide Try.prog W .any base t v := hval0
  have hW' := hW
  obtain ⟨p, q, hA0, hV, rfl, hfz, hnd⟩ := hW
  have hA : DataW.TrodAll enc Try.prog W 0 (fun _ => true) true Try.f8.params.toList args.toList ds p := hA0
  rw [Try.params8] at hA hval
  obtain ⟨v0, vs0, d0, ds0, p0, q0, hargs, rfl, rfl, h0, r0⟩ := trodAll_cons hA
  obtain ⟨rfl, rfl, rfl⟩ := trodAll_nil r0
  obtain rfl : args = #[v0] := by cases args; simp_all
  obtain ⟨rfl, rfl⟩ := trodVars_none hV
  have t0 : ∀ x ∈ p0, x.block < W.heap.size := fun x hx => hW'.lt x (by simp [hx])
  have k0 := hval 0 24 v0 rfl rfl
  have m0 := h0
  obtain ⟨p0', c0', l0', rfl, p0'n, p0's, p0'r⟩ := open_Element k0 h0
  refine (walk p0' c0' l0' W p0'n p0's p0'r).mono fun e W' ⟨he, hb⟩ => ?_
  subst he
  refine ⟨_, rfl, _, _, _, [], _, [], hW', trodAll_mk1 (shut_bool Try.underlying4 _), (trodAll_cons_mk (Below.trod laidOut (by kernel_rfl) (of_decide_eq_true (by kernel_rfl)) m0 hb t0) trodAll_mk0), rfl, hb.frame _, fun h => by cases h⟩

theorem over : Rows.fnExactMirrorElementRow.holds Try.pinned (OpenSpec.ofChange Rows.fnExactMirrorElementSpec) :=
  OpenClaim.holds_of_wide 8 Try.f8 rfl rfl rfl rfl rfl rfl rfl ⟨rfl, rfl, rfl, rfl, rfl⟩ rfl rfl rfl rfl rfl (by kernel_rfl) Try.func8 (by kernel_rfl)
    (of_decide_eq_true (by kernel_rfl)) (by unfold Func.isWrapper; first | (rw [if_pos (by decide +kernel)]; kernel_rfl) | (rw [if_neg (by decide +kernel)]; exact ⟨rfl, rfl⟩))
    (fun os started H enc _ => lifted os started H enc)

theorem proved : Rows.FnExactMirrorElementSaid := over
#print axioms proved
end Go.Proofs.Ytheakjbbfdcbaaa.lawMirrorElement
