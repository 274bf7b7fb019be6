/- The law of FitsAt: for every input the call returns true, and the inputs read as they did. -/
import Derived.Test.YtheakjbbfdcbaaaFits
import Derived.Test.YtheakjbbfdcbaaaLawElem
import Derived.Test.YtheakjbbfdcbaaaOpen2
set_option linter.unusedVariables false
set_option linter.unusedSimpArgs false
namespace Go.Proofs.Ytheakjbbfdcbaaa.lawFitsAt
open Go.RowKit Go.Proofs.Ytheakjbbfdcbaaa
set_option maxRecDepth 100000 in
set_option maxHeartbeats 4000000 in
theorem walk (p0 : Option Addr) (c0 : Nat) (ss : List ByteArray) (p1 : Option Addr) (c1 : Nat) (l : List (Int × Int)) (x : Int) (y : Int) (w : World) (hn0' : ss.length ≤ maxLen) (hs0' : ∀ s ∈ ss, s.size ≤ maxLen) (hr0' : Rd w p0 ss.length (strAt ss)) (hn1' : l.length ≤ maxLen) (hs1' : ∀ s ∈ l, (-9223372036854775808 ≤ s.1 ∧ s.1 ≤ 9223372036854775807) ∧ (-9223372036854775808 ≤ s.2 ∧ s.2 ≤ 9223372036854775807)) (hr1' : Rd w p1 (l.length * 2) (spotAt l)) (hb2' : -9223372036854775808 ≤ x ∧ x ≤ 9223372036854775807) (hc2' : -9223372036854775808 ≤ y ∧ y ≤ 9223372036854775807) :
    Calls Try.prog 5 #[.agg #[.slice p0 ss.length c0], .agg #[.slice p1 l.length c1], .agg #[.int .i64 x, .int .i64 y]] w fun e w' => e = .returned (.bool true) ∧ Below w.heap.size w w' := by
  rcases Int.lt_or_le (szS ss 1048576) 0 with z0 | z0
  · have R0 := ArgRd.of_rd hr0'
    have R1 := ArgRd.of_rd hr1'
    have S := Since.refl w
    replace R0 := R0.bl (bl_alloc w (.cells #[.slice p0 ss.length c0] 38))
    replace R1 := R1.bl (bl_alloc w (.cells #[.slice p0 ss.length c0] 38))
    replace S := S.bl (bl_alloc w (.cells #[.slice p0 ss.length c0] 38))
    have A0 := Blk.new w #[.slice p0 ss.length c0] 38
    replace R0 := R0.bl (bl_alloc (w.alloc (.cells #[.slice p0 ss.length c0] 38)) (.cells #[.slice p1 l.length c1] 24))
    replace R1 := R1.bl (bl_alloc (w.alloc (.cells #[.slice p0 ss.length c0] 38)) (.cells #[.slice p1 l.length c1] 24))
    replace S := S.bl (bl_alloc (w.alloc (.cells #[.slice p0 ss.length c0] 38)) (.cells #[.slice p1 l.length c1] 24))
    replace A0 := A0.bl (bl_alloc (w.alloc (.cells #[.slice p0 ss.length c0] 38)) (.cells #[.slice p1 l.length c1] 24))
    have A1 := Blk.new (w.alloc (.cells #[.slice p0 ss.length c0] 38)) #[.slice p1 l.length c1] 24
    simp only [World.size_alloc] at A1
    replace R0 := R0.bl (bl_alloc ((w.alloc (.cells #[.slice p0 ss.length c0] 38)).alloc (.cells #[.slice p1 l.length c1] 24)) (.cells #[.int .i64 x, .int .i64 y] 40))
    replace R1 := R1.bl (bl_alloc ((w.alloc (.cells #[.slice p0 ss.length c0] 38)).alloc (.cells #[.slice p1 l.length c1] 24)) (.cells #[.int .i64 x, .int .i64 y] 40))
    replace S := S.bl (bl_alloc ((w.alloc (.cells #[.slice p0 ss.length c0] 38)).alloc (.cells #[.slice p1 l.length c1] 24)) (.cells #[.int .i64 x, .int .i64 y] 40))
    replace A0 := A0.bl (bl_alloc ((w.alloc (.cells #[.slice p0 ss.length c0] 38)).alloc (.cells #[.slice p1 l.length c1] 24)) (.cells #[.int .i64 x, .int .i64 y] 40))
    replace A1 := A1.bl (bl_alloc ((w.alloc (.cells #[.slice p0 ss.length c0] 38)).alloc (.cells #[.slice p1 l.length c1] 24)) (.cells #[.int .i64 x, .int .i64 y] 40))
    have A2 := Blk.new ((w.alloc (.cells #[.slice p0 ss.length c0] 38)).alloc (.cells #[.slice p1 l.length c1] 24)) #[.int .i64 x, .int .i64 y] 40
    simp only [World.size_alloc] at A2
    go_enter Try.func5, Try.ntmps5
    have kA0_0 := A0.cell 0 rfl
    have kA1_0 := A1.cell 0 rfl
    have kA2_0 := A2.cell 0 rfl
    have kA2_1 := A2.cell 1 rfl
    go_wp2_with fail
    refine (szPicture_any _ _ ss _ _ hn0' hs0' (by omega) (by omega) R0.rd).mono ?_
    rw [if_neg (by omega)]
    rintro e w1 ⟨rfl, hb⟩
    replace R0 := R0.bl hb
    replace R1 := R1.bl hb
    replace S := S.bl hb
    replace A0 := A0.bl hb
    replace A1 := A1.bl hb
    replace A2 := A2.bl hb
    have z_1 := hb.size
    (try simp only [World.size_alloc, World.size_setCell, szDrew] at z_1)
    clear hb
    clear kA0_0 kA1_0 kA2_0 kA2_1
    have kA0_0 := A0.cell 0 rfl
    have kA1_0 := A1.cell 0 rfl
    have kA2_0 := A2.cell 0 rfl
    have kA2_1 := A2.cell 1 rfl
    go_wp2
    go_ret
    exact ⟨rfl, S.below⟩
  · have hn0 : ss.length ≤ 1048576 := by have := (szS_ok (by omega) z0).1; omega
    have hs0 : ∀ s ∈ ss, s.size ≤ 1048576 := fun s h => by have := (szS_ok (by omega) z0).2 s h; omega
    have zl0 := szS_le ss 1048576 (by omega)
    rcases Int.lt_or_le ((szS ss 1048576) - (l.length : Int)) 0 with z1 | z1
    · have R0 := ArgRd.of_rd hr0'
      have R1 := ArgRd.of_rd hr1'
      have S := Since.refl w
      replace R0 := R0.bl (bl_alloc w (.cells #[.slice p0 ss.length c0] 38))
      replace R1 := R1.bl (bl_alloc w (.cells #[.slice p0 ss.length c0] 38))
      replace S := S.bl (bl_alloc w (.cells #[.slice p0 ss.length c0] 38))
      have A0 := Blk.new w #[.slice p0 ss.length c0] 38
      replace R0 := R0.bl (bl_alloc (w.alloc (.cells #[.slice p0 ss.length c0] 38)) (.cells #[.slice p1 l.length c1] 24))
      replace R1 := R1.bl (bl_alloc (w.alloc (.cells #[.slice p0 ss.length c0] 38)) (.cells #[.slice p1 l.length c1] 24))
      replace S := S.bl (bl_alloc (w.alloc (.cells #[.slice p0 ss.length c0] 38)) (.cells #[.slice p1 l.length c1] 24))
      replace A0 := A0.bl (bl_alloc (w.alloc (.cells #[.slice p0 ss.length c0] 38)) (.cells #[.slice p1 l.length c1] 24))
      have A1 := Blk.new (w.alloc (.cells #[.slice p0 ss.length c0] 38)) #[.slice p1 l.length c1] 24
      simp only [World.size_alloc] at A1
      replace R0 := R0.bl (bl_alloc ((w.alloc (.cells #[.slice p0 ss.length c0] 38)).alloc (.cells #[.slice p1 l.length c1] 24)) (.cells #[.int .i64 x, .int .i64 y] 40))
      replace R1 := R1.bl (bl_alloc ((w.alloc (.cells #[.slice p0 ss.length c0] 38)).alloc (.cells #[.slice p1 l.length c1] 24)) (.cells #[.int .i64 x, .int .i64 y] 40))
      replace S := S.bl (bl_alloc ((w.alloc (.cells #[.slice p0 ss.length c0] 38)).alloc (.cells #[.slice p1 l.length c1] 24)) (.cells #[.int .i64 x, .int .i64 y] 40))
      replace A0 := A0.bl (bl_alloc ((w.alloc (.cells #[.slice p0 ss.length c0] 38)).alloc (.cells #[.slice p1 l.length c1] 24)) (.cells #[.int .i64 x, .int .i64 y] 40))
      replace A1 := A1.bl (bl_alloc ((w.alloc (.cells #[.slice p0 ss.length c0] 38)).alloc (.cells #[.slice p1 l.length c1] 24)) (.cells #[.int .i64 x, .int .i64 y] 40))
      have A2 := Blk.new ((w.alloc (.cells #[.slice p0 ss.length c0] 38)).alloc (.cells #[.slice p1 l.length c1] 24)) #[.int .i64 x, .int .i64 y] 40
      simp only [World.size_alloc] at A2
      go_enter Try.func5, Try.ntmps5
      have kA0_0 := A0.cell 0 rfl
      have kA1_0 := A1.cell 0 rfl
      have kA2_0 := A2.cell 0 rfl
      have kA2_1 := A2.cell 1 rfl
      go_wp2_with fail
      refine (szPicture_any _ _ ss _ _ hn0' hs0' (by omega) (by omega) R0.rd).mono ?_
      rw [if_pos (by omega)]
      rintro e w1 ⟨rfl, hb⟩
      replace R0 := R0.bl hb
      replace R1 := R1.bl hb
      replace S := S.bl hb
      replace A0 := A0.bl hb
      replace A1 := A1.bl hb
      replace A2 := A2.bl hb
      have z_1 := hb.size
      (try simp only [World.size_alloc, World.size_setCell, szDrew] at z_1)
      clear hb
      clear kA0_0 kA1_0 kA2_0 kA2_1
      have kA0_0 := A0.cell 0 rfl
      have kA1_0 := A1.cell 0 rfl
      have kA2_0 := A2.cell 0 rfl
      have kA2_1 := A2.cell 1 rfl
      go_wp2_with fail
      refine (szElement_any _ _ _ _ _ hn1' (by omega) (by omega)).mono ?_
      rw [if_pos (by omega)]
      rintro e w2 ⟨rfl, hb⟩
      replace R0 := R0.bl hb
      replace R1 := R1.bl hb
      replace S := S.bl hb
      replace A0 := A0.bl hb
      replace A1 := A1.bl hb
      replace A2 := A2.bl hb
      have z_2 := hb.size
      (try simp only [World.size_alloc, World.size_setCell, szDrew] at z_2)
      clear hb
      clear kA0_0 kA1_0 kA2_0 kA2_1
      have kA0_0 := A0.cell 0 rfl
      have kA1_0 := A1.cell 0 rfl
      have kA2_0 := A2.cell 0 rfl
      have kA2_1 := A2.cell 1 rfl
      go_wp2
      go_ret
      exact ⟨rfl, S.below⟩
    · have hn1 : l.length ≤ 1048576 := by omega
      have zl1 : (szS ss 1048576) - (l.length : Int) ≤ (szS ss 1048576) := by omega
      have R0 := ArgRd.of_rd hr0'
      have R1 := ArgRd.of_rd hr1'
      have S := Since.refl w
      replace R0 := R0.bl (bl_alloc w (.cells #[.slice p0 ss.length c0] 38))
      replace R1 := R1.bl (bl_alloc w (.cells #[.slice p0 ss.length c0] 38))
      replace S := S.bl (bl_alloc w (.cells #[.slice p0 ss.length c0] 38))
      have A0 := Blk.new w #[.slice p0 ss.length c0] 38
      replace R0 := R0.bl (bl_alloc (w.alloc (.cells #[.slice p0 ss.length c0] 38)) (.cells #[.slice p1 l.length c1] 24))
      replace R1 := R1.bl (bl_alloc (w.alloc (.cells #[.slice p0 ss.length c0] 38)) (.cells #[.slice p1 l.length c1] 24))
      replace S := S.bl (bl_alloc (w.alloc (.cells #[.slice p0 ss.length c0] 38)) (.cells #[.slice p1 l.length c1] 24))
      replace A0 := A0.bl (bl_alloc (w.alloc (.cells #[.slice p0 ss.length c0] 38)) (.cells #[.slice p1 l.length c1] 24))
      have A1 := Blk.new (w.alloc (.cells #[.slice p0 ss.length c0] 38)) #[.slice p1 l.length c1] 24
      simp only [World.size_alloc] at A1
      replace R0 := R0.bl (bl_alloc ((w.alloc (.cells #[.slice p0 ss.length c0] 38)).alloc (.cells #[.slice p1 l.length c1] 24)) (.cells #[.int .i64 x, .int .i64 y] 40))
      replace R1 := R1.bl (bl_alloc ((w.alloc (.cells #[.slice p0 ss.length c0] 38)).alloc (.cells #[.slice p1 l.length c1] 24)) (.cells #[.int .i64 x, .int .i64 y] 40))
      replace S := S.bl (bl_alloc ((w.alloc (.cells #[.slice p0 ss.length c0] 38)).alloc (.cells #[.slice p1 l.length c1] 24)) (.cells #[.int .i64 x, .int .i64 y] 40))
      replace A0 := A0.bl (bl_alloc ((w.alloc (.cells #[.slice p0 ss.length c0] 38)).alloc (.cells #[.slice p1 l.length c1] 24)) (.cells #[.int .i64 x, .int .i64 y] 40))
      replace A1 := A1.bl (bl_alloc ((w.alloc (.cells #[.slice p0 ss.length c0] 38)).alloc (.cells #[.slice p1 l.length c1] 24)) (.cells #[.int .i64 x, .int .i64 y] 40))
      have A2 := Blk.new ((w.alloc (.cells #[.slice p0 ss.length c0] 38)).alloc (.cells #[.slice p1 l.length c1] 24)) #[.int .i64 x, .int .i64 y] 40
      simp only [World.size_alloc] at A2
      go_enter Try.func5, Try.ntmps5
      have kA0_0 := A0.cell 0 rfl
      have kA1_0 := A1.cell 0 rfl
      have kA2_0 := A2.cell 0 rfl
      have kA2_1 := A2.cell 1 rfl
      go_wp2_with fail
      refine (szPicture_any _ _ ss _ _ hn0' hs0' (by omega) (by omega) R0.rd).mono ?_
      rw [if_pos (by omega)]
      rintro e w1 ⟨rfl, hb⟩
      replace R0 := R0.bl hb
      replace R1 := R1.bl hb
      replace S := S.bl hb
      replace A0 := A0.bl hb
      replace A1 := A1.bl hb
      replace A2 := A2.bl hb
      have z_1 := hb.size
      (try simp only [World.size_alloc, World.size_setCell, szDrew] at z_1)
      clear hb
      clear kA0_0 kA1_0 kA2_0 kA2_1
      have kA0_0 := A0.cell 0 rfl
      have kA1_0 := A1.cell 0 rfl
      have kA2_0 := A2.cell 0 rfl
      have kA2_1 := A2.cell 1 rfl
      go_wp2_with fail
      refine (szElement_any _ _ _ _ _ hn1' (by omega) (by omega)).mono ?_
      rw [if_neg (by omega)]
      rintro e w2 ⟨rfl, hb⟩
      replace R0 := R0.bl hb
      replace R1 := R1.bl hb
      replace S := S.bl hb
      replace A0 := A0.bl hb
      replace A1 := A1.bl hb
      replace A2 := A2.bl hb
      have z_2 := hb.size
      (try simp only [World.size_alloc, World.size_setCell, szDrew] at z_2)
      clear hb
      clear kA0_0 kA1_0 kA2_0 kA2_1
      have kA0_0 := A0.cell 0 rfl
      have kA1_0 := A1.cell 0 rfl
      have kA2_0 := A2.cell 0 rfl
      have kA2_1 := A2.cell 1 rfl
      have y_0 := bl_drew w2
      replace R0 := R0.bl y_0
      replace R1 := R1.bl y_0
      replace S := S.bl y_0
      replace A0 := A0.bl y_0
      replace A1 := A1.bl y_0
      replace A2 := A2.bl y_0
      clear y_0
      clear kA0_0 kA1_0 kA2_0 kA2_1
      have kA0_0 := A0.cell 0 rfl
      have kA1_0 := A1.cell 0 rfl
      have kA2_0 := A2.cell 0 rfl
      have kA2_1 := A2.cell 1 rfl
      go_wp2_with fail
      go_region_held3 (fun w' => w'.cell? ⟨w.heap.size, 0, none⟩ = some (.slice p0 ss.length c0) ∧ w'.cell? ⟨w.heap.size + 1, 0, none⟩ = some (.slice p1 l.length c1) ∧ w'.cell? ⟨w.heap.size + 1 + 1, 0, none⟩ = some (.int .i64 x) ∧ w'.cell? ⟨w.heap.size + 1 + 1, 1, none⟩ = some (.int .i64 y))
        (first | exact ⟨A0.cell 0 rfl, A1.cell 0 rfl, A2.cell 0 rfl, A2.cell 1 rfl⟩ | exact ⟨(A0.bl hb_3).cell 0 rfl, (A1.bl hb_3).cell 0 rfl, (A2.bl hb_3).cell 0 rfl, (A2.bl hb_3).cell 1 rfl⟩ | exact ⟨((A0.bl hb_3).bl hb_4).cell 0 rfl, ((A1.bl hb_3).bl hb_4).cell 0 rfl, ((A2.bl hb_3).bl hb_4).cell 0 rfl, ((A2.bl hb_3).bl hb_4).cell 1 rfl⟩ | exact ⟨(((A0.bl hb_3).bl hb_4).bl hb_5).cell 0 rfl, (((A1.bl hb_3).bl hb_4).bl hb_5).cell 0 rfl, (((A2.bl hb_3).bl hb_4).bl hb_5).cell 0 rfl, (((A2.bl hb_3).bl hb_4).bl hb_5).cell 1 rfl⟩ | exact ⟨((((A0.bl hb_3).bl hb_4).bl hb_5).bl hb_6).cell 0 rfl, ((((A1.bl hb_3).bl hb_4).bl hb_5).bl hb_6).cell 0 rfl, ((((A2.bl hb_3).bl hb_4).bl hb_5).bl hb_6).cell 0 rfl, ((((A2.bl hb_3).bl hb_4).bl hb_5).bl hb_6).cell 1 rfl⟩)
        ((first | (go_at_call 21; with_reducible (refine (toPicture_x R0 hn0).mono ?_); rintro e w3 ⟨gY1, rfl, Y1, hgY1, hb_3⟩; have lY1 := Y1.lt) | (go_at_call 12; with_reducible (refine (toElement_x (R1.bl hb_3) hn1).mono ?_); rintro e w4 ⟨gY2, rfl, Y2, hgY2, hb_4⟩; have lY2 := Y2.lt) | (go_at_call 22; with_reducible (refine (toSpot2_any _ _ _).mono ?_); rintro e w5 ⟨rfl, hb_5⟩) | (go_at_call 20; with_reducible (refine (sFitsAt_any _ _ _ _ ss l x y _ hn0 hs0 ((Y1.bl hb_4).bl hb_5).rd hn1 (Y2.bl hb_5).rd).mono ?_); rintro e w6 ⟨rfl, hb_6⟩)))
      replace R0 := R0.bl hb_3
      replace R1 := R1.bl hb_3
      replace S := S.bl hb_3
      replace A0 := A0.bl hb_3
      replace A1 := A1.bl hb_3
      replace A2 := A2.bl hb_3
      have z_3 := hb_3.size
      (try simp only [World.size_alloc, World.size_setCell, szDrew] at z_3)
      replace R0 := R0.bl hb_4
      replace R1 := R1.bl hb_4
      replace S := S.bl hb_4
      replace A0 := A0.bl hb_4
      replace A1 := A1.bl hb_4
      replace A2 := A2.bl hb_4
      replace Y1 := Y1.bl hb_4
      have z_4 := hb_4.size
      (try simp only [World.size_alloc, World.size_setCell, szDrew] at z_4)
      replace R0 := R0.bl hb_5
      replace R1 := R1.bl hb_5
      replace S := S.bl hb_5
      replace A0 := A0.bl hb_5
      replace A1 := A1.bl hb_5
      replace A2 := A2.bl hb_5
      replace Y1 := Y1.bl hb_5
      replace Y2 := Y2.bl hb_5
      have z_5 := hb_5.size
      (try simp only [World.size_alloc, World.size_setCell, szDrew] at z_5)
      replace R0 := R0.bl hb_6
      replace R1 := R1.bl hb_6
      replace S := S.bl hb_6
      replace A0 := A0.bl hb_6
      replace A1 := A1.bl hb_6
      replace A2 := A2.bl hb_6
      replace Y1 := Y1.bl hb_6
      replace Y2 := Y2.bl hb_6
      have z_6 := hb_6.size
      (try simp only [World.size_alloc, World.size_setCell, szDrew] at z_6)
      (try simp only [World.size_alloc, World.size_setCell, szDrew] at hgY1)
      (try simp only [World.size_alloc, World.size_setCell, szDrew] at hgY2)
      clear hb_3 hb_4 hb_5 hb_6
      clear kA0_0 kA1_0 kA2_0 kA2_1
      have kA0_0 := A0.cell 0 rfl
      have kA1_0 := A1.cell 0 rfl
      have kA2_0 := A2.cell 0 rfl
      have kA2_1 := A2.cell 1 rfl
      go_wp2_with fail
      refine (toPicture_x R0 hn0).mono ?_
      rintro e w7 ⟨gY3, rfl, Y3, hgY3, hb⟩
      replace R0 := R0.bl hb
      replace R1 := R1.bl hb
      replace S := S.bl hb
      replace A0 := A0.bl hb
      replace A1 := A1.bl hb
      replace A2 := A2.bl hb
      replace Y1 := Y1.bl hb
      replace Y2 := Y2.bl hb
      have z_7 := hb.size
      (try simp only [World.size_alloc, World.size_setCell, szDrew] at z_7)
      have lY3 := Y3.lt
      (try simp only [World.size_alloc, World.size_setCell, szDrew] at hgY3)
      clear hb
      clear kA0_0 kA1_0 kA2_0 kA2_1
      have kA0_0 := A0.cell 0 rfl
      have kA1_0 := A1.cell 0 rfl
      have kA2_0 := A2.cell 0 rfl
      have kA2_1 := A2.cell 1 rfl
      replace R0 := R0.bl (bl_alloc w7 (.cells #[.slice (some ⟨gY3, 0, none⟩) ss.length ss.length] 43))
      replace R1 := R1.bl (bl_alloc w7 (.cells #[.slice (some ⟨gY3, 0, none⟩) ss.length ss.length] 43))
      replace S := S.bl (bl_alloc w7 (.cells #[.slice (some ⟨gY3, 0, none⟩) ss.length ss.length] 43))
      replace A0 := A0.bl (bl_alloc w7 (.cells #[.slice (some ⟨gY3, 0, none⟩) ss.length ss.length] 43))
      replace A1 := A1.bl (bl_alloc w7 (.cells #[.slice (some ⟨gY3, 0, none⟩) ss.length ss.length] 43))
      replace A2 := A2.bl (bl_alloc w7 (.cells #[.slice (some ⟨gY3, 0, none⟩) ss.length ss.length] 43))
      replace Y1 := Y1.bl (bl_alloc w7 (.cells #[.slice (some ⟨gY3, 0, none⟩) ss.length ss.length] 43))
      replace Y2 := Y2.bl (bl_alloc w7 (.cells #[.slice (some ⟨gY3, 0, none⟩) ss.length ss.length] 43))
      replace Y3 := Y3.bl (bl_alloc w7 (.cells #[.slice (some ⟨gY3, 0, none⟩) ss.length ss.length] 43))
      have B1 := Blk.new w7 #[.slice (some ⟨gY3, 0, none⟩) ss.length ss.length] 43
      (try simp only [World.size_alloc] at B1)
      clear kA0_0 kA1_0 kA2_0 kA2_1
      have kA0_0 := A0.cell 0 rfl
      have kA1_0 := A1.cell 0 rfl
      have kA2_0 := A2.cell 0 rfl
      have kA2_1 := A2.cell 1 rfl
      have kB1_0 := B1.cell 0 rfl
      go_wp2_with fail
      refine (toElement_x R1 hn1).mono ?_
      rintro e w8 ⟨gY4, rfl, Y4, hgY4, hb⟩
      replace R0 := R0.bl hb
      replace R1 := R1.bl hb
      replace S := S.bl hb
      replace A0 := A0.bl hb
      replace A1 := A1.bl hb
      replace A2 := A2.bl hb
      replace Y1 := Y1.bl hb
      replace Y2 := Y2.bl hb
      replace Y3 := Y3.bl hb
      replace B1 := B1.bl hb
      have z_8 := hb.size
      (try simp only [World.size_alloc, World.size_setCell, szDrew] at z_8)
      have lY4 := Y4.lt
      (try simp only [World.size_alloc, World.size_setCell, szDrew] at hgY4)
      clear hb
      clear kA0_0 kA1_0 kA2_0 kA2_1 kB1_0
      have kA0_0 := A0.cell 0 rfl
      have kA1_0 := A1.cell 0 rfl
      have kA2_0 := A2.cell 0 rfl
      have kA2_1 := A2.cell 1 rfl
      have kB1_0 := B1.cell 0 rfl
      replace R0 := R0.bl (bl_alloc w8 (.cells #[.slice (some ⟨gY4, 0, none⟩) l.length l.length] 28))
      replace R1 := R1.bl (bl_alloc w8 (.cells #[.slice (some ⟨gY4, 0, none⟩) l.length l.length] 28))
      replace S := S.bl (bl_alloc w8 (.cells #[.slice (some ⟨gY4, 0, none⟩) l.length l.length] 28))
      replace A0 := A0.bl (bl_alloc w8 (.cells #[.slice (some ⟨gY4, 0, none⟩) l.length l.length] 28))
      replace A1 := A1.bl (bl_alloc w8 (.cells #[.slice (some ⟨gY4, 0, none⟩) l.length l.length] 28))
      replace A2 := A2.bl (bl_alloc w8 (.cells #[.slice (some ⟨gY4, 0, none⟩) l.length l.length] 28))
      replace Y1 := Y1.bl (bl_alloc w8 (.cells #[.slice (some ⟨gY4, 0, none⟩) l.length l.length] 28))
      replace Y2 := Y2.bl (bl_alloc w8 (.cells #[.slice (some ⟨gY4, 0, none⟩) l.length l.length] 28))
      replace Y3 := Y3.bl (bl_alloc w8 (.cells #[.slice (some ⟨gY4, 0, none⟩) l.length l.length] 28))
      replace B1 := B1.bl (bl_alloc w8 (.cells #[.slice (some ⟨gY4, 0, none⟩) l.length l.length] 28))
      replace Y4 := Y4.bl (bl_alloc w8 (.cells #[.slice (some ⟨gY4, 0, none⟩) l.length l.length] 28))
      have B2 := Blk.new w8 #[.slice (some ⟨gY4, 0, none⟩) l.length l.length] 28
      (try simp only [World.size_alloc] at B2)
      clear kA0_0 kA1_0 kA2_0 kA2_1 kB1_0
      have kA0_0 := A0.cell 0 rfl
      have kA1_0 := A1.cell 0 rfl
      have kA2_0 := A2.cell 0 rfl
      have kA2_1 := A2.cell 1 rfl
      have kB1_0 := B1.cell 0 rfl
      have kB2_0 := B2.cell 0 rfl
      have y_0 := bl_drew (w8.alloc (.cells #[.slice (some ⟨gY4, 0, none⟩) l.length l.length] 28))
      replace R0 := R0.bl y_0
      replace R1 := R1.bl y_0
      replace S := S.bl y_0
      replace A0 := A0.bl y_0
      replace A1 := A1.bl y_0
      replace A2 := A2.bl y_0
      replace Y1 := Y1.bl y_0
      replace Y2 := Y2.bl y_0
      replace Y3 := Y3.bl y_0
      replace B1 := B1.bl y_0
      replace Y4 := Y4.bl y_0
      replace B2 := B2.bl y_0
      clear y_0
      clear kA0_0 kA1_0 kA2_0 kA2_1 kB1_0 kB2_0
      have kB1_0 := B1.cell 0 rfl
      have kB2_0 := B2.cell 0 rfl
      have kA2_0 := A2.cell 0 rfl
      have kA2_1 := A2.cell 1 rfl
      go_wp2_with fail
      go_region_held3 (fun w' => w'.cell? ⟨w7.heap.size, 0, none⟩ = some (.slice (some ⟨gY3, 0, none⟩) ss.length ss.length) ∧ w'.cell? ⟨w8.heap.size, 0, none⟩ = some (.slice (some ⟨gY4, 0, none⟩) l.length l.length) ∧ w'.cell? ⟨w.heap.size + 1 + 1, 0, none⟩ = some (.int .i64 x) ∧ w'.cell? ⟨w.heap.size + 1 + 1, 1, none⟩ = some (.int .i64 y))
        (first | exact ⟨B1.cell 0 rfl, B2.cell 0 rfl, A2.cell 0 rfl, A2.cell 1 rfl⟩ | exact ⟨(B1.bl hb_9).cell 0 rfl, (B2.bl hb_9).cell 0 rfl, (A2.bl hb_9).cell 0 rfl, (A2.bl hb_9).cell 1 rfl⟩ | exact ⟨((B1.bl hb_9).bl hb_10).cell 0 rfl, ((B2.bl hb_9).bl hb_10).cell 0 rfl, ((A2.bl hb_9).bl hb_10).cell 0 rfl, ((A2.bl hb_9).bl hb_10).cell 1 rfl⟩)
        ((first | (go_at_call 22; with_reducible (refine (toSpot2_any _ _ _).mono ?_); rintro e w9 ⟨rfl, hb_9⟩) | (go_at_call 23; with_reducible (refine (fitsAt_any _ _ _ _ ss l x y _ hn0 hs0 (Y3.bl hb_9).rd hn1 (Y4.bl hb_9).rd).mono ?_); rintro e w10 ⟨rfl, hb_10⟩)))
      replace R0 := R0.bl hb_9
      replace R1 := R1.bl hb_9
      replace S := S.bl hb_9
      replace A0 := A0.bl hb_9
      replace A1 := A1.bl hb_9
      replace A2 := A2.bl hb_9
      replace Y1 := Y1.bl hb_9
      replace Y2 := Y2.bl hb_9
      replace Y3 := Y3.bl hb_9
      replace B1 := B1.bl hb_9
      replace Y4 := Y4.bl hb_9
      replace B2 := B2.bl hb_9
      have z_9 := hb_9.size
      (try simp only [World.size_alloc, World.size_setCell, szDrew] at z_9)
      replace R0 := R0.bl hb_10
      replace R1 := R1.bl hb_10
      replace S := S.bl hb_10
      replace A0 := A0.bl hb_10
      replace A1 := A1.bl hb_10
      replace A2 := A2.bl hb_10
      replace Y1 := Y1.bl hb_10
      replace Y2 := Y2.bl hb_10
      replace Y3 := Y3.bl hb_10
      replace B1 := B1.bl hb_10
      replace Y4 := Y4.bl hb_10
      replace B2 := B2.bl hb_10
      have z_10 := hb_10.size
      (try simp only [World.size_alloc, World.size_setCell, szDrew] at z_10)
      clear hb_9 hb_10
      clear kB1_0 kB2_0 kA2_0 kA2_1
      have kA0_0 := A0.cell 0 rfl
      have kA1_0 := A1.cell 0 rfl
      have kA2_0 := A2.cell 0 rfl
      have kA2_1 := A2.cell 1 rfl
      have kB1_0 := B1.cell 0 rfl
      have kB2_0 := B2.cell 0 rfl
      have y_0 := bl_drew w10
      replace R0 := R0.bl y_0
      replace R1 := R1.bl y_0
      replace S := S.bl y_0
      replace A0 := A0.bl y_0
      replace A1 := A1.bl y_0
      replace A2 := A2.bl y_0
      replace Y1 := Y1.bl y_0
      replace Y2 := Y2.bl y_0
      replace Y3 := Y3.bl y_0
      replace B1 := B1.bl y_0
      replace Y4 := Y4.bl y_0
      replace B2 := B2.bl y_0
      clear y_0
      clear kA0_0 kA1_0 kA2_0 kA2_1 kB1_0 kB2_0
      have kB1_0 := B1.cell 0 rfl
      have kA0_0 := A0.cell 0 rfl
      go_wp2_with fail
      go_region_held3 (fun w' => w'.cell? ⟨w7.heap.size, 0, none⟩ = some (.slice (some ⟨gY3, 0, none⟩) ss.length ss.length) ∧ w'.cell? ⟨w.heap.size, 0, none⟩ = some (.slice p0 ss.length c0))
        (first | exact ⟨B1.cell 0 rfl, A0.cell 0 rfl⟩ | exact ⟨(B1.bl hb_11).cell 0 rfl, (A0.bl hb_11).cell 0 rfl⟩ | exact ⟨((B1.bl hb_11).bl hb_12).cell 0 rfl, ((A0.bl hb_11).bl hb_12).cell 0 rfl⟩)
        ((first | (go_at_call 21; with_reducible (refine (toPicture_x R0 hn0).mono ?_); rintro e w11 ⟨gY5, rfl, Y5, hgY5, hb_11⟩; have lY5 := Y5.lt) | (go_at_call 24; with_reducible (refine (eqPicture_same _ _ _ _ ss _ hn0 (Y3.bl hb_11).rd Y5.rd).mono ?_); rintro e w12 ⟨rfl, hb_12⟩)))
      replace R0 := R0.bl hb_11
      replace R1 := R1.bl hb_11
      replace S := S.bl hb_11
      replace A0 := A0.bl hb_11
      replace A1 := A1.bl hb_11
      replace A2 := A2.bl hb_11
      replace Y1 := Y1.bl hb_11
      replace Y2 := Y2.bl hb_11
      replace Y3 := Y3.bl hb_11
      replace B1 := B1.bl hb_11
      replace Y4 := Y4.bl hb_11
      replace B2 := B2.bl hb_11
      have z_11 := hb_11.size
      (try simp only [World.size_alloc, World.size_setCell, szDrew] at z_11)
      replace R0 := R0.bl hb_12
      replace R1 := R1.bl hb_12
      replace S := S.bl hb_12
      replace A0 := A0.bl hb_12
      replace A1 := A1.bl hb_12
      replace A2 := A2.bl hb_12
      replace Y1 := Y1.bl hb_12
      replace Y2 := Y2.bl hb_12
      replace Y3 := Y3.bl hb_12
      replace B1 := B1.bl hb_12
      replace Y4 := Y4.bl hb_12
      replace B2 := B2.bl hb_12
      replace Y5 := Y5.bl hb_12
      have z_12 := hb_12.size
      (try simp only [World.size_alloc, World.size_setCell, szDrew] at z_12)
      (try simp only [World.size_alloc, World.size_setCell, szDrew] at hgY5)
      clear hb_11 hb_12
      clear kB1_0 kA0_0
      have kA0_0 := A0.cell 0 rfl
      have kA1_0 := A1.cell 0 rfl
      have kA2_0 := A2.cell 0 rfl
      have kA2_1 := A2.cell 1 rfl
      have kB1_0 := B1.cell 0 rfl
      have kB2_0 := B2.cell 0 rfl
      have y_0 := bl_drew w12
      replace R0 := R0.bl y_0
      replace R1 := R1.bl y_0
      replace S := S.bl y_0
      replace A0 := A0.bl y_0
      replace A1 := A1.bl y_0
      replace A2 := A2.bl y_0
      replace Y1 := Y1.bl y_0
      replace Y2 := Y2.bl y_0
      replace Y3 := Y3.bl y_0
      replace B1 := B1.bl y_0
      replace Y4 := Y4.bl y_0
      replace B2 := B2.bl y_0
      replace Y5 := Y5.bl y_0
      clear y_0
      clear kA0_0 kA1_0 kA2_0 kA2_1 kB1_0 kB2_0
      have kB2_0 := B2.cell 0 rfl
      have kA1_0 := A1.cell 0 rfl
      go_wp2_with fail
      go_region_held3 (fun w' => w'.cell? ⟨w8.heap.size, 0, none⟩ = some (.slice (some ⟨gY4, 0, none⟩) l.length l.length) ∧ w'.cell? ⟨w.heap.size + 1, 0, none⟩ = some (.slice p1 l.length c1))
        (first | exact ⟨B2.cell 0 rfl, A1.cell 0 rfl⟩ | exact ⟨(B2.bl hb_13).cell 0 rfl, (A1.bl hb_13).cell 0 rfl⟩ | exact ⟨((B2.bl hb_13).bl hb_14).cell 0 rfl, ((A1.bl hb_13).bl hb_14).cell 0 rfl⟩)
        ((first | (go_at_call 12; with_reducible (refine (toElement_x R1 hn1).mono ?_); rintro e w13 ⟨gY6, rfl, Y6, hgY6, hb_13⟩; have lY6 := Y6.lt) | (go_at_call 14; with_reducible (refine (eqElement_same _ _ _ _ l _ hn1 (Y4.bl hb_13).rd Y6.rd).mono ?_); rintro e w14 ⟨rfl, hb_14⟩)))
      replace R0 := R0.bl hb_13
      replace R1 := R1.bl hb_13
      replace S := S.bl hb_13
      replace A0 := A0.bl hb_13
      replace A1 := A1.bl hb_13
      replace A2 := A2.bl hb_13
      replace Y1 := Y1.bl hb_13
      replace Y2 := Y2.bl hb_13
      replace Y3 := Y3.bl hb_13
      replace B1 := B1.bl hb_13
      replace Y4 := Y4.bl hb_13
      replace B2 := B2.bl hb_13
      replace Y5 := Y5.bl hb_13
      have z_13 := hb_13.size
      (try simp only [World.size_alloc, World.size_setCell, szDrew] at z_13)
      replace R0 := R0.bl hb_14
      replace R1 := R1.bl hb_14
      replace S := S.bl hb_14
      replace A0 := A0.bl hb_14
      replace A1 := A1.bl hb_14
      replace A2 := A2.bl hb_14
      replace Y1 := Y1.bl hb_14
      replace Y2 := Y2.bl hb_14
      replace Y3 := Y3.bl hb_14
      replace B1 := B1.bl hb_14
      replace Y4 := Y4.bl hb_14
      replace B2 := B2.bl hb_14
      replace Y5 := Y5.bl hb_14
      replace Y6 := Y6.bl hb_14
      have z_14 := hb_14.size
      (try simp only [World.size_alloc, World.size_setCell, szDrew] at z_14)
      (try simp only [World.size_alloc, World.size_setCell, szDrew] at hgY6)
      clear hb_13 hb_14
      clear kB2_0 kA1_0
      have kA0_0 := A0.cell 0 rfl
      have kA1_0 := A1.cell 0 rfl
      have kA2_0 := A2.cell 0 rfl
      have kA2_1 := A2.cell 1 rfl
      have kB1_0 := B1.cell 0 rfl
      have kB2_0 := B2.cell 0 rfl
      clear kA0_0 kA1_0 kA2_0 kA2_1 kB1_0 kB2_0
      have kA0_0 := A0.cell 0 rfl
      have kA1_0 := A1.cell 0 rfl
      have kA2_0 := A2.cell 0 rfl
      have kA2_1 := A2.cell 1 rfl
      have kB1_0 := B1.cell 0 rfl
      have kB2_0 := B2.cell 0 rfl
      go_wp2
      go_ret
      exact ⟨rfl, S.below⟩
open Go.ChangeShapes Go.WideShapes Go.ChangeAt
open Go.ChangeMaps (open_string shut_string)

set_option maxRecDepth 100000 in
theorem lifted (os : Os) (started : os.Started) (H : Type) (enc : TypeId × Value → H) :
    ReturnsInHanded {} Try.checked os 5 .any (Rows.fnExactFitsAtSpec.pre6 enc Try.prog Try.f5 Rows.fnExactFitsAtRow.domain false) (Rows.fnExactFitsAtSpec.post enc Try.prog Try.f5 false true false false) := by
  refine returnsInHanded_of_change (C := Try.checked) own started (by kernel_rfl) Try.func5
    (ChangeSpec.witness6 (enc := enc) (C := Try.checked) false ⟨#[], #[.agg #[.slice none 0 0], .agg #[.slice none 0 0], .agg #[.int .i64 0, .int .i64 0]], []⟩ 8 (by kernel_rfl) (by kernel_rfl) (by kernel_rfl) (by kernel_rfl)) ?_
  intro W base args ds gs before hval0 hW hcnd _
  have hval : ∀ (j : Nat) t v, Try.f5.params[j]? = some t → args[j]? = some v → Value.okWide Try.prog W .any base t v := hval0
  have hW' := hW
  obtain ⟨p, q, hA0, hV, rfl, hfz, hnd⟩ := hW
  have hA : DataW.TrodAll enc Try.prog W 0 (fun _ => true) true Try.f5.params.toList args.toList ds p := hA0
  rw [Try.params5] at hA hval
  obtain ⟨v0, vs0, d0, ds0, p0, q0, hargs, rfl, rfl, h0, r0⟩ := trodAll_cons hA
  obtain ⟨v1, vs1, d1, ds1, p1, q1, rfl, rfl, rfl, h1, r1⟩ := trodAll_cons r0
  obtain ⟨v2, vs2, d2, ds2, p2, q2, rfl, rfl, rfl, h2, r2⟩ := trodAll_cons r1
  obtain ⟨rfl, rfl, rfl⟩ := trodAll_nil r2
  obtain rfl : args = #[v0, v1, v2] := by cases args; simp_all
  obtain ⟨rfl, rfl⟩ := trodVars_none hV
  have t0 : ∀ x ∈ p0, x.block < W.heap.size := fun x hx => hW'.lt x (by simp [hx])
  have k0 := hval 0 38 v0 rfl rfl
  have m0 := h0
  obtain ⟨p0', c0', ss0', rfl, p0'n, p0's, p0'r⟩ := open_Picture k0 h0
  have t1 : ∀ x ∈ p1, x.block < W.heap.size := fun x hx => hW'.lt x (by simp [hx])
  have k1 := hval 1 24 v1 rfl rfl
  have m1 := h1
  obtain ⟨p1', c1', l1', rfl, p1'n, p1's, p1'r⟩ := open_Element k1 h1
  have t2 : ∀ x ∈ p2, x.block < W.heap.size := fun x hx => hW'.lt x (by simp [hx])
  have k2 := hval 2 40 v2 rfl rfl
  have m2 := h2
  obtain ⟨x2', y2', rfl, x2'w, y2'w⟩ := open_Spot k2 h2
  refine (walk p0' c0' ss0' p1' c1' l1' x2' y2' W p0'n p0's p0'r p1'n p1's p1'r x2'w y2'w).mono fun e W' ⟨he, hb⟩ => ?_
  subst he
  refine ⟨_, rfl, _, _, _, [], _, [], hW', trodAll_mk1 (shut_bool Try.underlying4 _), (trodAll_cons_mk (Below.trod laidOut (by kernel_rfl) (of_decide_eq_true (by kernel_rfl)) m0 hb t0) (trodAll_cons_mk (Below.trod laidOut (by kernel_rfl) (of_decide_eq_true (by kernel_rfl)) m1 hb t1) (trodAll_cons_mk (Below.trod laidOut (by kernel_rfl) (of_decide_eq_true (by kernel_rfl)) m2 hb t2) trodAll_mk0))), rfl, hb.frame _, fun h => by cases h⟩

theorem over : Rows.fnExactFitsAtRow.holds Try.pinned (OpenSpec.ofChange Rows.fnExactFitsAtSpec) :=
  OpenClaim.holds_of_wide 5 Try.f5 rfl rfl rfl rfl rfl rfl rfl ⟨rfl, rfl, rfl, rfl, rfl⟩ rfl rfl rfl rfl rfl (by kernel_rfl) Try.func5 (by kernel_rfl)
    (of_decide_eq_true (by kernel_rfl)) (by unfold Func.isWrapper; first | (rw [if_pos (by decide +kernel)]; kernel_rfl) | (rw [if_neg (by decide +kernel)]; exact ⟨rfl, rfl⟩))
    (fun os started H enc _ => lifted os started H enc)

theorem proved : Rows.FnExactFitsAtSaid := over
#print axioms proved
end Go.Proofs.Ytheakjbbfdcbaaa.lawFitsAt
