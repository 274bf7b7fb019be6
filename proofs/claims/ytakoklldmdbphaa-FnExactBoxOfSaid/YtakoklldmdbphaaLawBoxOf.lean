/- The law of BoxOf: for every input the call returns true, and the inputs read as they did. -/
import Derived.Test.YtakoklldmdbphaaBox
import Derived.Test.YtakoklldmdbphaaBoxI
import Derived.Test.YtakoklldmdbphaaLawKit
import Derived.Test.YtakoklldmdbphaaLawNames
import Derived.Test.YtakoklldmdbphaaOpen
set_option linter.unusedVariables false
set_option linter.unusedSimpArgs false
namespace Go.Proofs.Ytakoklldmdbphaa.lawBoxOf
open Go.RowKit Go.Proofs.Ytakoklldmdbphaa
set_option maxRecDepth 100000 in
set_option maxHeartbeats 4000000 in
theorem walk (p0 : Option Addr) (c0 : Nat) (ss : List ByteArray) (w : World) (hn0' : ss.length ≤ maxLen) (hs0' : ∀ s ∈ ss, s.size ≤ maxLen) (hr0' : Rd w p0 ss.length (strAt ss)) :
    Calls Try.prog 3 #[.agg #[.slice p0 ss.length c0]] w fun e w' => e = .returned (.bool true) ∧ Below w.heap.size w w' := by
  rcases Int.lt_or_le (szS ss 1048576) 0 with z0 | z0
  · have R0 := ArgRd.of_rd hr0'
    have S := Since.refl w
    replace R0 := R0.bl (bl_alloc w (.cells #[.slice p0 ss.length c0] 24))
    replace S := S.bl (bl_alloc w (.cells #[.slice p0 ss.length c0] 24))
    have A0 := Blk.new w #[.slice p0 ss.length c0] 24
    go_enter Try.func3, Try.ntmps3
    have kA0_0 := A0.cell 0 rfl
    go_wp2_with fail
    refine (szPicture_any _ _ ss _ _ hn0' hs0' (by omega) (by omega) R0.rd).mono ?_
    rw [if_neg (by omega)]
    rintro e w1 ⟨rfl, hb⟩
    replace R0 := R0.bl hb
    replace S := S.bl hb
    replace A0 := A0.bl hb
    have z_1 := hb.size
    (try simp only [World.size_alloc, World.size_setCell, szDrew] at z_1)
    clear hb
    clear kA0_0
    have kA0_0 := A0.cell 0 rfl
    go_wp2
    go_ret
    exact ⟨rfl, S.below⟩
  · have hn0 : ss.length ≤ 1048576 := by have := (szS_ok (by omega) z0).1; omega
    have hs0 : ∀ s ∈ ss, s.size ≤ 1048576 := fun s h => by have := (szS_ok (by omega) z0).2 s h; omega
    have zl0 := szS_le ss 1048576 (by omega)
    have R0 := ArgRd.of_rd hr0'
    have S := Since.refl w
    replace R0 := R0.bl (bl_alloc w (.cells #[.slice p0 ss.length c0] 24))
    replace S := S.bl (bl_alloc w (.cells #[.slice p0 ss.length c0] 24))
    have A0 := Blk.new w #[.slice p0 ss.length c0] 24
    go_enter Try.func3, Try.ntmps3
    have kA0_0 := A0.cell 0 rfl
    go_wp2_with fail
    refine (szPicture_any _ _ ss _ _ hn0' hs0' (by omega) (by omega) R0.rd).mono ?_
    rw [if_pos (by omega)]
    rintro e w1 ⟨rfl, hb⟩
    replace R0 := R0.bl hb
    replace S := S.bl hb
    replace A0 := A0.bl hb
    have z_1 := hb.size
    (try simp only [World.size_alloc, World.size_setCell, szDrew] at z_1)
    clear hb
    clear kA0_0
    have kA0_0 := A0.cell 0 rfl
    go_wp2_with fail
    refine (toPicture_x R0 hn0).mono ?_
    rintro e w2 ⟨gY1, rfl, Y1, hgY1, hb⟩
    replace R0 := R0.bl hb
    replace S := S.bl hb
    replace A0 := A0.bl hb
    have z_2 := hb.size
    (try simp only [World.size_alloc, World.size_setCell, szDrew] at z_2)
    have lY1 := Y1.lt
    (try simp only [World.size_alloc, World.size_setCell, szDrew] at hgY1)
    clear hb
    clear kA0_0
    have kA0_0 := A0.cell 0 rfl
    go_wp2_with fail
    refine (sBoxOf_any _ _ ss _ hn0 hs0 Y1.rd).mono ?_
    rintro e w3 ⟨rfl, hb⟩
    replace R0 := R0.bl hb
    replace S := S.bl hb
    replace A0 := A0.bl hb
    replace Y1 := Y1.bl hb
    have z_3 := hb.size
    (try simp only [World.size_alloc, World.size_setCell, szDrew] at z_3)
    clear hb
    clear kA0_0
    have kA0_0 := A0.cell 0 rfl
    replace R0 := R0.bl (bl_alloc w3 (.cells #[.int .i64 (boxR ss).1.1, .int .i64 (boxR ss).1.2] 27))
    replace S := S.bl (bl_alloc w3 (.cells #[.int .i64 (boxR ss).1.1, .int .i64 (boxR ss).1.2] 27))
    replace A0 := A0.bl (bl_alloc w3 (.cells #[.int .i64 (boxR ss).1.1, .int .i64 (boxR ss).1.2] 27))
    replace Y1 := Y1.bl (bl_alloc w3 (.cells #[.int .i64 (boxR ss).1.1, .int .i64 (boxR ss).1.2] 27))
    have B1 := Blk.new w3 #[.int .i64 (boxR ss).1.1, .int .i64 (boxR ss).1.2] 27
    (try simp only [World.size_alloc] at B1)
    clear kA0_0
    have kA0_0 := A0.cell 0 rfl
    have kB1_0 := B1.cell 0 rfl
    have kB1_1 := B1.cell 1 rfl
    replace R0 := R0.bl (bl_alloc (w3.alloc (.cells #[.int .i64 (boxR ss).1.1, .int .i64 (boxR ss).1.2] 27)) (.cells #[.int .i64 (boxR ss).2.1, .int .i64 (boxR ss).2.2] 27))
    replace S := S.bl (bl_alloc (w3.alloc (.cells #[.int .i64 (boxR ss).1.1, .int .i64 (boxR ss).1.2] 27)) (.cells #[.int .i64 (boxR ss).2.1, .int .i64 (boxR ss).2.2] 27))
    replace A0 := A0.bl (bl_alloc (w3.alloc (.cells #[.int .i64 (boxR ss).1.1, .int .i64 (boxR ss).1.2] 27)) (.cells #[.int .i64 (boxR ss).2.1, .int .i64 (boxR ss).2.2] 27))
    replace Y1 := Y1.bl (bl_alloc (w3.alloc (.cells #[.int .i64 (boxR ss).1.1, .int .i64 (boxR ss).1.2] 27)) (.cells #[.int .i64 (boxR ss).2.1, .int .i64 (boxR ss).2.2] 27))
    replace B1 := B1.bl (bl_alloc (w3.alloc (.cells #[.int .i64 (boxR ss).1.1, .int .i64 (boxR ss).1.2] 27)) (.cells #[.int .i64 (boxR ss).2.1, .int .i64 (boxR ss).2.2] 27))
    have B2 := Blk.new (w3.alloc (.cells #[.int .i64 (boxR ss).1.1, .int .i64 (boxR ss).1.2] 27)) #[.int .i64 (boxR ss).2.1, .int .i64 (boxR ss).2.2] 27
    (try simp only [World.size_alloc] at B2)
    clear kA0_0 kB1_0 kB1_1
    have kA0_0 := A0.cell 0 rfl
    have kB1_0 := B1.cell 0 rfl
    have kB1_1 := B1.cell 1 rfl
    have kB2_0 := B2.cell 0 rfl
    have kB2_1 := B2.cell 1 rfl
    go_wp2_with fail
    refine (toPicture_x R0 hn0).mono ?_
    rintro e w4 ⟨gY2, rfl, Y2, hgY2, hb⟩
    replace R0 := R0.bl hb
    replace S := S.bl hb
    replace A0 := A0.bl hb
    replace Y1 := Y1.bl hb
    replace B1 := B1.bl hb
    replace B2 := B2.bl hb
    have z_4 := hb.size
    (try simp only [World.size_alloc, World.size_setCell, szDrew] at z_4)
    have lY2 := Y2.lt
    (try simp only [World.size_alloc, World.size_setCell, szDrew] at hgY2)
    clear hb
    clear kA0_0 kB1_0 kB1_1 kB2_0 kB2_1
    have kA0_0 := A0.cell 0 rfl
    have kB1_0 := B1.cell 0 rfl
    have kB1_1 := B1.cell 1 rfl
    have kB2_0 := B2.cell 0 rfl
    have kB2_1 := B2.cell 1 rfl
    replace R0 := R0.bl (bl_alloc w4 (.cells #[.slice (some ⟨gY2, 0, none⟩) ss.length ss.length] 30))
    replace S := S.bl (bl_alloc w4 (.cells #[.slice (some ⟨gY2, 0, none⟩) ss.length ss.length] 30))
    replace A0 := A0.bl (bl_alloc w4 (.cells #[.slice (some ⟨gY2, 0, none⟩) ss.length ss.length] 30))
    replace Y1 := Y1.bl (bl_alloc w4 (.cells #[.slice (some ⟨gY2, 0, none⟩) ss.length ss.length] 30))
    replace B1 := B1.bl (bl_alloc w4 (.cells #[.slice (some ⟨gY2, 0, none⟩) ss.length ss.length] 30))
    replace B2 := B2.bl (bl_alloc w4 (.cells #[.slice (some ⟨gY2, 0, none⟩) ss.length ss.length] 30))
    replace Y2 := Y2.bl (bl_alloc w4 (.cells #[.slice (some ⟨gY2, 0, none⟩) ss.length ss.length] 30))
    have B3 := Blk.new w4 #[.slice (some ⟨gY2, 0, none⟩) ss.length ss.length] 30
    (try simp only [World.size_alloc] at B3)
    clear kA0_0 kB1_0 kB1_1 kB2_0 kB2_1
    have kA0_0 := A0.cell 0 rfl
    have kB1_0 := B1.cell 0 rfl
    have kB1_1 := B1.cell 1 rfl
    have kB2_0 := B2.cell 0 rfl
    have kB2_1 := B2.cell 1 rfl
    have kB3_0 := B3.cell 0 rfl
    go_wp2_with fail
    refine (boxOf_any _ _ ss _ hn0 hs0 Y2.rd).mono ?_
    rintro e w5 ⟨rfl, hb⟩
    replace R0 := R0.bl hb
    replace S := S.bl hb
    replace A0 := A0.bl hb
    replace Y1 := Y1.bl hb
    replace B1 := B1.bl hb
    replace B2 := B2.bl hb
    replace Y2 := Y2.bl hb
    replace B3 := B3.bl hb
    have z_5 := hb.size
    (try simp only [World.size_alloc, World.size_setCell, szDrew] at z_5)
    clear hb
    clear kA0_0 kB1_0 kB1_1 kB2_0 kB2_1 kB3_0
    have kA0_0 := A0.cell 0 rfl
    have kB1_0 := B1.cell 0 rfl
    have kB1_1 := B1.cell 1 rfl
    have kB2_0 := B2.cell 0 rfl
    have kB2_1 := B2.cell 1 rfl
    have kB3_0 := B3.cell 0 rfl
    replace R0 := R0.bl (bl_alloc w5 (.cells #[.int .i64 (boxR ss).1.1, .int .i64 (boxR ss).1.2] 27))
    replace S := S.bl (bl_alloc w5 (.cells #[.int .i64 (boxR ss).1.1, .int .i64 (boxR ss).1.2] 27))
    replace A0 := A0.bl (bl_alloc w5 (.cells #[.int .i64 (boxR ss).1.1, .int .i64 (boxR ss).1.2] 27))
    replace Y1 := Y1.bl (bl_alloc w5 (.cells #[.int .i64 (boxR ss).1.1, .int .i64 (boxR ss).1.2] 27))
    replace B1 := B1.bl (bl_alloc w5 (.cells #[.int .i64 (boxR ss).1.1, .int .i64 (boxR ss).1.2] 27))
    replace B2 := B2.bl (bl_alloc w5 (.cells #[.int .i64 (boxR ss).1.1, .int .i64 (boxR ss).1.2] 27))
    replace Y2 := Y2.bl (bl_alloc w5 (.cells #[.int .i64 (boxR ss).1.1, .int .i64 (boxR ss).1.2] 27))
    replace B3 := B3.bl (bl_alloc w5 (.cells #[.int .i64 (boxR ss).1.1, .int .i64 (boxR ss).1.2] 27))
    have B4 := Blk.new w5 #[.int .i64 (boxR ss).1.1, .int .i64 (boxR ss).1.2] 27
    (try simp only [World.size_alloc] at B4)
    clear kA0_0 kB1_0 kB1_1 kB2_0 kB2_1 kB3_0
    have kA0_0 := A0.cell 0 rfl
    have kB1_0 := B1.cell 0 rfl
    have kB1_1 := B1.cell 1 rfl
    have kB2_0 := B2.cell 0 rfl
    have kB2_1 := B2.cell 1 rfl
    have kB3_0 := B3.cell 0 rfl
    have kB4_0 := B4.cell 0 rfl
    have kB4_1 := B4.cell 1 rfl
    replace R0 := R0.bl (bl_alloc (w5.alloc (.cells #[.int .i64 (boxR ss).1.1, .int .i64 (boxR ss).1.2] 27)) (.cells #[.int .i64 (boxR ss).2.1, .int .i64 (boxR ss).2.2] 27))
    replace S := S.bl (bl_alloc (w5.alloc (.cells #[.int .i64 (boxR ss).1.1, .int .i64 (boxR ss).1.2] 27)) (.cells #[.int .i64 (boxR ss).2.1, .int .i64 (boxR ss).2.2] 27))
    replace A0 := A0.bl (bl_alloc (w5.alloc (.cells #[.int .i64 (boxR ss).1.1, .int .i64 (boxR ss).1.2] 27)) (.cells #[.int .i64 (boxR ss).2.1, .int .i64 (boxR ss).2.2] 27))
    replace Y1 := Y1.bl (bl_alloc (w5.alloc (.cells #[.int .i64 (boxR ss).1.1, .int .i64 (boxR ss).1.2] 27)) (.cells #[.int .i64 (boxR ss).2.1, .int .i64 (boxR ss).2.2] 27))
    replace B1 := B1.bl (bl_alloc (w5.alloc (.cells #[.int .i64 (boxR ss).1.1, .int .i64 (boxR ss).1.2] 27)) (.cells #[.int .i64 (boxR ss).2.1, .int .i64 (boxR ss).2.2] 27))
    replace B2 := B2.bl (bl_alloc (w5.alloc (.cells #[.int .i64 (boxR ss).1.1, .int .i64 (boxR ss).1.2] 27)) (.cells #[.int .i64 (boxR ss).2.1, .int .i64 (boxR ss).2.2] 27))
    replace Y2 := Y2.bl (bl_alloc (w5.alloc (.cells #[.int .i64 (boxR ss).1.1, .int .i64 (boxR ss).1.2] 27)) (.cells #[.int .i64 (boxR ss).2.1, .int .i64 (boxR ss).2.2] 27))
    replace B3 := B3.bl (bl_alloc (w5.alloc (.cells #[.int .i64 (boxR ss).1.1, .int .i64 (boxR ss).1.2] 27)) (.cells #[.int .i64 (boxR ss).2.1, .int .i64 (boxR ss).2.2] 27))
    replace B4 := B4.bl (bl_alloc (w5.alloc (.cells #[.int .i64 (boxR ss).1.1, .int .i64 (boxR ss).1.2] 27)) (.cells #[.int .i64 (boxR ss).2.1, .int .i64 (boxR ss).2.2] 27))
    have B5 := Blk.new (w5.alloc (.cells #[.int .i64 (boxR ss).1.1, .int .i64 (boxR ss).1.2] 27)) #[.int .i64 (boxR ss).2.1, .int .i64 (boxR ss).2.2] 27
    (try simp only [World.size_alloc] at B5)
    clear kA0_0 kB1_0 kB1_1 kB2_0 kB2_1 kB3_0 kB4_0 kB4_1
    have kA0_0 := A0.cell 0 rfl
    have kB1_0 := B1.cell 0 rfl
    have kB1_1 := B1.cell 1 rfl
    have kB2_0 := B2.cell 0 rfl
    have kB2_1 := B2.cell 1 rfl
    have kB3_0 := B3.cell 0 rfl
    have kB4_0 := B4.cell 0 rfl
    have kB4_1 := B4.cell 1 rfl
    have kB5_0 := B5.cell 0 rfl
    have kB5_1 := B5.cell 1 rfl
    go_wp2_with fail
    refine (eqSpot_same _ _ _).mono ?_
    rintro e w6 ⟨rfl, hb⟩
    replace R0 := R0.bl hb
    replace S := S.bl hb
    replace A0 := A0.bl hb
    replace Y1 := Y1.bl hb
    replace B1 := B1.bl hb
    replace B2 := B2.bl hb
    replace Y2 := Y2.bl hb
    replace B3 := B3.bl hb
    replace B4 := B4.bl hb
    replace B5 := B5.bl hb
    have z_6 := hb.size
    (try simp only [World.size_alloc, World.size_setCell, szDrew] at z_6)
    clear hb
    clear kA0_0 kB1_0 kB1_1 kB2_0 kB2_1 kB3_0 kB4_0 kB4_1 kB5_0 kB5_1
    have kA0_0 := A0.cell 0 rfl
    have kB1_0 := B1.cell 0 rfl
    have kB1_1 := B1.cell 1 rfl
    have kB2_0 := B2.cell 0 rfl
    have kB2_1 := B2.cell 1 rfl
    have kB3_0 := B3.cell 0 rfl
    have kB4_0 := B4.cell 0 rfl
    have kB4_1 := B4.cell 1 rfl
    have kB5_0 := B5.cell 0 rfl
    have kB5_1 := B5.cell 1 rfl
    go_wp2_with fail
    refine (eqSpot_same _ _ _).mono ?_
    rintro e w7 ⟨rfl, hb⟩
    replace R0 := R0.bl hb
    replace S := S.bl hb
    replace A0 := A0.bl hb
    replace Y1 := Y1.bl hb
    replace B1 := B1.bl hb
    replace B2 := B2.bl hb
    replace Y2 := Y2.bl hb
    replace B3 := B3.bl hb
    replace B4 := B4.bl hb
    replace B5 := B5.bl hb
    have z_7 := hb.size
    (try simp only [World.size_alloc, World.size_setCell, szDrew] at z_7)
    clear hb
    clear kA0_0 kB1_0 kB1_1 kB2_0 kB2_1 kB3_0 kB4_0 kB4_1 kB5_0 kB5_1
    have kA0_0 := A0.cell 0 rfl
    have kB1_0 := B1.cell 0 rfl
    have kB1_1 := B1.cell 1 rfl
    have kB2_0 := B2.cell 0 rfl
    have kB2_1 := B2.cell 1 rfl
    have kB3_0 := B3.cell 0 rfl
    have kB4_0 := B4.cell 0 rfl
    have kB4_1 := B4.cell 1 rfl
    have kB5_0 := B5.cell 0 rfl
    have kB5_1 := B5.cell 1 rfl
    have y_0 := bl_drew w7
    replace R0 := R0.bl y_0
    replace S := S.bl y_0
    replace A0 := A0.bl y_0
    replace Y1 := Y1.bl y_0
    replace B1 := B1.bl y_0
    replace B2 := B2.bl y_0
    replace Y2 := Y2.bl y_0
    replace B3 := B3.bl y_0
    replace B4 := B4.bl y_0
    replace B5 := B5.bl y_0
    clear y_0
    clear kA0_0 kB1_0 kB1_1 kB2_0 kB2_1 kB3_0 kB4_0 kB4_1 kB5_0 kB5_1
    have kB3_0 := B3.cell 0 rfl
    have kA0_0 := A0.cell 0 rfl
    go_wp2_with fail
    go_region_held3 (fun w' => w'.cell? ⟨w4.heap.size, 0, none⟩ = some (.slice (some ⟨gY2, 0, none⟩) ss.length ss.length) ∧ w'.cell? ⟨w.heap.size, 0, none⟩ = some (.slice p0 ss.length c0))
      (first | exact ⟨B3.cell 0 rfl, A0.cell 0 rfl⟩ | exact ⟨(B3.bl hb_8).cell 0 rfl, (A0.bl hb_8).cell 0 rfl⟩ | exact ⟨((B3.bl hb_8).bl hb_9).cell 0 rfl, ((A0.bl hb_8).bl hb_9).cell 0 rfl⟩)
      ((first | (go_at_call 16; with_reducible (refine (toPicture_x R0 hn0).mono ?_); rintro e w8 ⟨gY3, rfl, Y3, hgY3, hb_8⟩; have lY3 := Y3.lt) | (go_at_call 19; with_reducible (refine (eqPicture_same _ _ _ _ ss _ hn0 (Y2.bl hb_8).rd Y3.rd).mono ?_); rintro e w9 ⟨rfl, hb_9⟩)))
    replace R0 := R0.bl hb_8
    replace S := S.bl hb_8
    replace A0 := A0.bl hb_8
    replace Y1 := Y1.bl hb_8
    replace B1 := B1.bl hb_8
    replace B2 := B2.bl hb_8
    replace Y2 := Y2.bl hb_8
    replace B3 := B3.bl hb_8
    replace B4 := B4.bl hb_8
    replace B5 := B5.bl hb_8
    have z_8 := hb_8.size
    (try simp only [World.size_alloc, World.size_setCell, szDrew] at z_8)
    replace R0 := R0.bl hb_9
    replace S := S.bl hb_9
    replace A0 := A0.bl hb_9
    replace Y1 := Y1.bl hb_9
    replace B1 := B1.bl hb_9
    replace B2 := B2.bl hb_9
    replace Y2 := Y2.bl hb_9
    replace B3 := B3.bl hb_9
    replace B4 := B4.bl hb_9
    replace B5 := B5.bl hb_9
    replace Y3 := Y3.bl hb_9
    have z_9 := hb_9.size
    (try simp only [World.size_alloc, World.size_setCell, szDrew] at z_9)
    (try simp only [World.size_alloc, World.size_setCell, szDrew] at hgY3)
    clear hb_8 hb_9
    clear kB3_0 kA0_0
    have kA0_0 := A0.cell 0 rfl
    have kB1_0 := B1.cell 0 rfl
    have kB1_1 := B1.cell 1 rfl
    have kB2_0 := B2.cell 0 rfl
    have kB2_1 := B2.cell 1 rfl
    have kB3_0 := B3.cell 0 rfl
    have kB4_0 := B4.cell 0 rfl
    have kB4_1 := B4.cell 1 rfl
    have kB5_0 := B5.cell 0 rfl
    have kB5_1 := B5.cell 1 rfl
    clear kA0_0 kB1_0 kB1_1 kB2_0 kB2_1 kB3_0 kB4_0 kB4_1 kB5_0 kB5_1
    have kA0_0 := A0.cell 0 rfl
    have kB1_0 := B1.cell 0 rfl
    have kB1_1 := B1.cell 1 rfl
    have kB2_0 := B2.cell 0 rfl
    have kB2_1 := B2.cell 1 rfl
    have kB3_0 := B3.cell 0 rfl
    have kB4_0 := B4.cell 0 rfl
    have kB4_1 := B4.cell 1 rfl
    have kB5_0 := B5.cell 0 rfl
    have kB5_1 := B5.cell 1 rfl
    go_wp2
    go_ret
    exact ⟨rfl, S.below⟩
open Go.ChangeShapes Go.WideShapes Go.ChangeAt
open Go.ChangeMaps (open_string shut_string)

set_option maxRecDepth 100000 in
theorem lifted (os : Os) (started : os.Started) (H : Type) (enc : TypeId × Value → H) :
    ReturnsInHanded {} Try.checked os 3 .any (Rows.fnExactBoxOfSpec.pre6 enc Try.prog Try.f3 Rows.fnExactBoxOfRow.domain false) (Rows.fnExactBoxOfSpec.post enc Try.prog Try.f3 false true false false) := by
  refine returnsInHanded_of_change (C := Try.checked) own started (by kernel_rfl) Try.func3
    (ChangeSpec.witness6 (enc := enc) (C := Try.checked) false ⟨#[], #[.agg #[.slice none 0 0]], []⟩ 8 (by kernel_rfl) (by kernel_rfl) (by kernel_rfl) (by kernel_rfl)) ?_
  intro W base args ds gs before hval0 hW hcnd _
  have hval : ∀ (j : Nat) t v, Try.f3.params[j]? = some t → args[j]? = some v → Value.okWide Try.prog W .any base t v := hval0
  have hW' := hW
  obtain ⟨p, q, hA0, hV, rfl, hfz, hnd⟩ := hW
  have hA : DataW.TrodAll enc Try.prog W 0 (fun _ => true) true Try.f3.params.toList args.toList ds p := hA0
  rw [Try.params3] at hA hval
  obtain ⟨v0, vs0, d0, ds0, p0, q0, hargs, rfl, rfl, h0, r0⟩ := trodAll_cons hA
  obtain ⟨rfl, rfl, rfl⟩ := trodAll_nil r0
  obtain rfl : args = #[v0] := by cases args; simp_all
  obtain ⟨rfl, rfl⟩ := trodVars_none hV
  have t0 : ∀ x ∈ p0, x.block < W.heap.size := fun x hx => hW'.lt x (by simp [hx])
  have k0 := hval 0 24 v0 rfl rfl
  have m0 := h0
  obtain ⟨p0', c0', ss0', rfl, p0'n, p0's, p0'r⟩ := open_Picture k0 h0
  refine (walk p0' c0' ss0' W p0'n p0's p0'r).mono fun e W' ⟨he, hb⟩ => ?_
  subst he
  refine ⟨_, rfl, _, _, _, [], _, [], hW', trodAll_mk1 (shut_bool Try.underlying4 _), (trodAll_cons_mk (Below.trod laidOut (by kernel_rfl) (of_decide_eq_true (by kernel_rfl)) m0 hb t0) trodAll_mk0), rfl, hb.frame _, fun h => by cases h⟩

theorem over : Rows.fnExactBoxOfRow.holds Try.pinned (OpenSpec.ofChange Rows.fnExactBoxOfSpec) :=
  OpenClaim.holds_of_wide 3 Try.f3 rfl rfl rfl rfl rfl rfl rfl ⟨rfl, rfl, rfl, rfl, rfl⟩ rfl rfl rfl rfl rfl (by kernel_rfl) Try.func3 (by kernel_rfl)
    (of_decide_eq_true (by kernel_rfl)) (by unfold Func.isWrapper; first | (rw [if_pos (by decide +kernel)]; kernel_rfl) | (rw [if_neg (by decide +kernel)]; exact ⟨rfl, rfl⟩))
    (fun os started H enc _ => lifted os started H enc)

theorem proved : Rows.FnExactBoxOfSaid := over
#print axioms proved
end Go.Proofs.Ytakoklldmdbphaa.lawBoxOf
