/- The law of CropPicture: for every input the call returns true, and the inputs read as they did. -/
import Derived.Test.YteoodnhcghjjeaaImplCrop
import Derived.Test.YteoodnhcghjjeaaLawKit
import Derived.Test.YteoodnhcghjjeaaOpen
set_option linter.unusedVariables false
set_option linter.unusedSimpArgs false
namespace Go.Proofs.Yteoodnhcghjjeaa.lawCropPicture
open Go.RowKit Go.Proofs.Yteoodnhcghjjeaa
set_option maxRecDepth 100000 in
set_option maxHeartbeats 4000000 in
theorem walk (p0 : Option Addr) (c0 : Nat) (ss : List ByteArray) (x : Int) (y : Int) (wd : Int) (ht : Int) (w : World) (hn0' : ss.length ≤ maxLen) (hs0' : ∀ s ∈ ss, s.size ≤ maxLen) (hr0' : Rd w p0 ss.length (strAt ss)) (hb1' : -9223372036854775808 ≤ x ∧ x ≤ 9223372036854775807) (hc1' : -9223372036854775808 ≤ y ∧ y ≤ 9223372036854775807) (hb2' : -9223372036854775808 ≤ wd ∧ wd ≤ 9223372036854775807) (hb3' : -9223372036854775808 ≤ ht ∧ ht ≤ 9223372036854775807) :
    Calls Try.prog 12 #[.agg #[.slice p0 ss.length c0], .agg #[.int .i64 x, .int .i64 y], .int .i64 wd, .int .i64 ht] w fun e w' => e = .returned (.bool true) ∧ Below w.heap.size w w' := by
  rcases Int.lt_or_le (szS ss 1048576) 0 with z0 | z0
  · have R0 := ArgRd.of_rd hr0'
    have S := Since.refl w
    replace R0 := R0.bl (bl_alloc w (.cells #[.slice p0 ss.length c0] 24))
    replace S := S.bl (bl_alloc w (.cells #[.slice p0 ss.length c0] 24))
    have A0 := Blk.new w #[.slice p0 ss.length c0] 24
    replace R0 := R0.bl (bl_alloc (w.alloc (.cells #[.slice p0 ss.length c0] 24)) (.cells #[.int .i64 x, .int .i64 y] 52))
    replace S := S.bl (bl_alloc (w.alloc (.cells #[.slice p0 ss.length c0] 24)) (.cells #[.int .i64 x, .int .i64 y] 52))
    replace A0 := A0.bl (bl_alloc (w.alloc (.cells #[.slice p0 ss.length c0] 24)) (.cells #[.int .i64 x, .int .i64 y] 52))
    have A1 := Blk.new (w.alloc (.cells #[.slice p0 ss.length c0] 24)) #[.int .i64 x, .int .i64 y] 52
    simp only [World.size_alloc] at A1
    go_enter Try.func12, Try.ntmps12
    have kA0_0 := A0.cell 0 rfl
    have kA1_0 := A1.cell 0 rfl
    have kA1_1 := A1.cell 1 rfl
    go_wp2_with fail
    refine (szPicture_any _ _ ss _ _ hn0' hs0' (by omega) (by omega) R0.rd).mono ?_
    rw [if_neg (by omega)]
    rintro e w1 ⟨rfl, hb⟩
    replace R0 := R0.bl hb
    replace S := S.bl hb
    replace A0 := A0.bl hb
    replace A1 := A1.bl hb
    have z_1 := hb.size
    (try simp only [World.size_alloc, World.size_setCell, szDrew] at z_1)
    clear hb
    clear kA0_0 kA1_0 kA1_1
    have kA0_0 := A0.cell 0 rfl
    have kA1_0 := A1.cell 0 rfl
    have kA1_1 := A1.cell 1 rfl
    go_wp2
    go_ret
    exact ⟨rfl, S.below⟩
  · have hn0 : ss.length ≤ 1048576 := by have := (szS_ok (by omega) z0).1; omega
    have hs0 : ∀ s ∈ ss, s.size ≤ 1048576 := fun s h => by have := (szS_ok (by omega) z0).2 s h; omega
    have zl0 := szS_le ss 1048576 (by omega)
    have R0 := ArgRd.of_rd hr0'
    have S := Since.refl w
    replace R0 := R0.bl (bl_alloc w (.cells #[.slice p0 ss.length c0] 24))
    replace S := S.bl (bl_alloc w (.cells #[.slice p0 ss.length c0] 24))
    have A0 := Blk.new w #[.slice p0 ss.length c0] 24
    replace R0 := R0.bl (bl_alloc (w.alloc (.cells #[.slice p0 ss.length c0] 24)) (.cells #[.int .i64 x, .int .i64 y] 52))
    replace S := S.bl (bl_alloc (w.alloc (.cells #[.slice p0 ss.length c0] 24)) (.cells #[.int .i64 x, .int .i64 y] 52))
    replace A0 := A0.bl (bl_alloc (w.alloc (.cells #[.slice p0 ss.length c0] 24)) (.cells #[.int .i64 x, .int .i64 y] 52))
    have A1 := Blk.new (w.alloc (.cells #[.slice p0 ss.length c0] 24)) #[.int .i64 x, .int .i64 y] 52
    simp only [World.size_alloc] at A1
    go_enter Try.func12, Try.ntmps12
    have kA0_0 := A0.cell 0 rfl
    have kA1_0 := A1.cell 0 rfl
    have kA1_1 := A1.cell 1 rfl
    go_wp2_with fail
    refine (szPicture_any _ _ ss _ _ hn0' hs0' (by omega) (by omega) R0.rd).mono ?_
    rw [if_pos (by omega)]
    rintro e w1 ⟨rfl, hb⟩
    replace R0 := R0.bl hb
    replace S := S.bl hb
    replace A0 := A0.bl hb
    replace A1 := A1.bl hb
    have z_1 := hb.size
    (try simp only [World.size_alloc, World.size_setCell, szDrew] at z_1)
    clear hb
    clear kA0_0 kA1_0 kA1_1
    have kA0_0 := A0.cell 0 rfl
    have kA1_0 := A1.cell 0 rfl
    have kA1_1 := A1.cell 1 rfl
    clear kA0_0 kA1_0 kA1_1
    have y_101 := bl_drew w1
    go_upto_region 5 with (fail)
    go_cut [10, 11] (fun s10 s11 wx => ∃ nb p d, s10 = .pointer (some ⟨nb, 0, none⟩) ∧ s11 = (.bool (cropOk ss x y wd ht)) ∧ CutStrs w1 nb p d (cropL ss x y wd ht) 28 wx)
    case first =>
      have R0_o := R0
      replace R0 := R0.bl y_101
      have S_o := S
      replace S := S.bl y_101
      have A0_o := A0
      replace A0 := A0.bl y_101
      have A1_o := A1
      replace A1 := A1.bl y_101
      have Z := (Since.refl w1).bl y_101
      have kA0_0 := A0.cell 0 rfl
      have kA1_0 := A1.cell 0 rfl
      have kA1_1 := A1.cell 1 rfl
      have q_A0 := A0.lt
      have q_A1 := A1.lt
      (try simp only [World.size_alloc, World.size_setCell, szDrew] at q_A0 q_A1)
      go_region_held3 (fun w' => w'.cell? ⟨w.heap.size, 0, none⟩ = some (.slice p0 ss.length c0) ∧ w'.cell? ⟨w.heap.size + 1, 0, none⟩ = some (.int .i64 x) ∧ w'.cell? ⟨w.heap.size + 1, 1, none⟩ = some (.int .i64 y))
        (first | exact ⟨kA0_0, kA1_0, kA1_1⟩ | exact ⟨Blk.cell (b := w.heap.size) (cs := #[.slice p0 ss.length c0]) (t := 24) (by (repeat (first | assumption | exact Blk.new _ _ _ | exact Since.refl _ | refine ArgRd.bl ?_ (bl_alloc _ _) | refine ArgRd.bl ?_ (bl_drew _) | refine ArgRd.bl ?_ (by assumption) | refine Copy.bl ?_ (bl_alloc _ _) | refine Copy.bl ?_ (bl_drew _) | refine Copy.bl ?_ (by assumption) | refine OwnStrs.bl ?_ (bl_alloc _ _) | refine OwnStrs.bl ?_ (bl_drew _) | refine OwnStrs.bl ?_ (by assumption) | refine Blk.bl ?_ (bl_alloc _ _) | refine Blk.bl ?_ (bl_drew _) | refine Blk.bl ?_ (by assumption) | refine Since.bl ?_ (bl_alloc _ _) | refine Since.bl ?_ (bl_drew _) | refine Since.bl ?_ (by assumption) | refine Blk.other ?_ (by (try dsimp only); (try simp only [World.size_alloc, World.size_setCell, szDrew]); omega) _))) 0 rfl, Blk.cell (b := w.heap.size + 1) (cs := #[.int .i64 x, .int .i64 y]) (t := 52) (by (repeat (first | assumption | exact Blk.new _ _ _ | exact Since.refl _ | refine ArgRd.bl ?_ (bl_alloc _ _) | refine ArgRd.bl ?_ (bl_drew _) | refine ArgRd.bl ?_ (by assumption) | refine Copy.bl ?_ (bl_alloc _ _) | refine Copy.bl ?_ (bl_drew _) | refine Copy.bl ?_ (by assumption) | refine OwnStrs.bl ?_ (bl_alloc _ _) | refine OwnStrs.bl ?_ (bl_drew _) | refine OwnStrs.bl ?_ (by assumption) | refine Blk.bl ?_ (bl_alloc _ _) | refine Blk.bl ?_ (bl_drew _) | refine Blk.bl ?_ (by assumption) | refine Since.bl ?_ (bl_alloc _ _) | refine Since.bl ?_ (bl_drew _) | refine Since.bl ?_ (by assumption) | refine Blk.other ?_ (by (try dsimp only); (try simp only [World.size_alloc, World.size_setCell, szDrew]); omega) _))) 0 rfl, Blk.cell (b := w.heap.size + 1) (cs := #[.int .i64 x, .int .i64 y]) (t := 52) (by (repeat (first | assumption | exact Blk.new _ _ _ | exact Since.refl _ | refine ArgRd.bl ?_ (bl_alloc _ _) | refine ArgRd.bl ?_ (bl_drew _) | refine ArgRd.bl ?_ (by assumption) | refine Copy.bl ?_ (bl_alloc _ _) | refine Copy.bl ?_ (bl_drew _) | refine Copy.bl ?_ (by assumption) | refine OwnStrs.bl ?_ (bl_alloc _ _) | refine OwnStrs.bl ?_ (bl_drew _) | refine OwnStrs.bl ?_ (by assumption) | refine Blk.bl ?_ (bl_alloc _ _) | refine Blk.bl ?_ (bl_drew _) | refine Blk.bl ?_ (by assumption) | refine Since.bl ?_ (bl_alloc _ _) | refine Since.bl ?_ (bl_drew _) | refine Since.bl ?_ (by assumption) | refine Blk.other ?_ (by (try dsimp only); (try simp only [World.size_alloc, World.size_setCell, szDrew]); omega) _))) 1 rfl⟩)
        ((first | (go_at_call 17; (with_reducible refine (toPicture_x (B := w.heap.size) ?_ hn0).mono ?_); (focus ((repeat (first | assumption | exact Blk.new _ _ _ | exact Since.refl _ | refine ArgRd.bl ?_ (bl_alloc _ _) | refine ArgRd.bl ?_ (bl_drew _) | refine ArgRd.bl ?_ (by assumption) | refine Copy.bl ?_ (bl_alloc _ _) | refine Copy.bl ?_ (bl_drew _) | refine Copy.bl ?_ (by assumption) | refine OwnStrs.bl ?_ (bl_alloc _ _) | refine OwnStrs.bl ?_ (bl_drew _) | refine OwnStrs.bl ?_ (by assumption) | refine Blk.bl ?_ (bl_alloc _ _) | refine Blk.bl ?_ (bl_drew _) | refine Blk.bl ?_ (by assumption) | refine Since.bl ?_ (bl_alloc _ _) | refine Since.bl ?_ (bl_drew _) | refine Since.bl ?_ (by assumption) | refine Blk.other ?_ (by (try dsimp only); (try simp only [World.size_alloc, World.size_setCell, szDrew]); omega) _)); done)); rintro e x1 ⟨gY1, rfl, Y1, hgY1, hc_1⟩; have s_hc_1 := hc_1.size; (try simp only [World.size_alloc, World.size_setCell, szDrew] at s_hc_1)) | (go_at_call 42; (with_reducible refine (toSpot2_any _ _ _).mono ?_); rintro e x2 ⟨rfl, hc_2⟩; have s_hc_2 := hc_2.size; (try simp only [World.size_alloc, World.size_setCell, szDrew] at s_hc_2)) | (go_at_call 41; (with_reducible refine (sCropPicture_any _ _ ss x y wd ht _ hn0 hs0 (Copy.rd (g := gY1) (t := 9) ?_)).mono ?_); (focus ((repeat (first | assumption | exact Blk.new _ _ _ | exact Since.refl _ | refine ArgRd.bl ?_ (bl_alloc _ _) | refine ArgRd.bl ?_ (bl_drew _) | refine ArgRd.bl ?_ (by assumption) | refine Copy.bl ?_ (bl_alloc _ _) | refine Copy.bl ?_ (bl_drew _) | refine Copy.bl ?_ (by assumption) | refine OwnStrs.bl ?_ (bl_alloc _ _) | refine OwnStrs.bl ?_ (bl_drew _) | refine OwnStrs.bl ?_ (by assumption) | refine Blk.bl ?_ (bl_alloc _ _) | refine Blk.bl ?_ (bl_drew _) | refine Blk.bl ?_ (by assumption) | refine Since.bl ?_ (bl_alloc _ _) | refine Since.bl ?_ (bl_drew _) | refine Since.bl ?_ (by assumption) | refine Blk.other ?_ (by (try dsimp only); (try simp only [World.size_alloc, World.size_setCell, szDrew]); omega) _)); done)); rintro e x3 ⟨vW0, rfl, OW0, hc_3⟩; obtain ⟨pW0, dW0, rfl⟩ := OW0.form; have bW0 := OW0.ge; have s_hc_3 := hc_3.size; (try simp only [World.size_alloc, World.size_setCell, szDrew] at s_hc_3); replace OW0 : OwnStrs w1.heap.size _ _ _ := OW0.mono (by (try simp only [World.size_alloc, World.size_setCell, szDrew] at *); omega); (first | have NB := Blk.bl (Blk.new _ _ _) hc_3 | have NB := Blk.bl (Blk.bl (Blk.new _ _ _) hc_2) hc_3 | have NB := Blk.bl (Blk.bl (Blk.bl (Blk.bl (Blk.new _ _ _) (bl_drew _)) hc_1) hc_2) hc_3 | skip); (try simp only [World.size_alloc, World.size_setCell, szDrew] at NB); (try (have NB_c := NB.cell 0 rfl; have NB_g := NB.frozen 0)))))
      all_goals
        (try simp only [World.size_alloc, World.size_setCell, szDrew] at s_hc_1 s_hc_2 s_hc_3)
        go_wp2_with fail
        go_meet
        first
        | refine ⟨_, _, _, rfl, rfl, cut_strs (lo := w1.heap.size) (z := .slice none 0 0) ?_ ?_ (Nat.le_refl _) ?_ ?_ ?_⟩
          · (repeat (first | assumption | exact Blk.new _ _ _ | exact Since.refl _ | refine ArgRd.bl ?_ (bl_alloc _ _) | refine ArgRd.bl ?_ (bl_drew _) | refine ArgRd.bl ?_ (by assumption) | refine Copy.bl ?_ (bl_alloc _ _) | refine Copy.bl ?_ (bl_drew _) | refine Copy.bl ?_ (by assumption) | refine OwnStrs.bl ?_ (bl_alloc _ _) | refine OwnStrs.bl ?_ (bl_drew _) | refine OwnStrs.bl ?_ (by assumption) | refine Blk.bl ?_ (bl_alloc _ _) | refine Blk.bl ?_ (bl_drew _) | refine Blk.bl ?_ (by assumption) | refine Since.bl ?_ (bl_alloc _ _) | refine Since.bl ?_ (bl_drew _) | refine Since.bl ?_ (by assumption) | refine Blk.other ?_ (by (try dsimp only); (try simp only [World.size_alloc, World.size_setCell, szDrew]); omega) _))
          · (repeat (first | assumption | exact Blk.new _ _ _ | exact Since.refl _ | refine ArgRd.bl ?_ (bl_alloc _ _) | refine ArgRd.bl ?_ (bl_drew _) | refine ArgRd.bl ?_ (by assumption) | refine Copy.bl ?_ (bl_alloc _ _) | refine Copy.bl ?_ (bl_drew _) | refine Copy.bl ?_ (by assumption) | refine OwnStrs.bl ?_ (bl_alloc _ _) | refine OwnStrs.bl ?_ (bl_drew _) | refine OwnStrs.bl ?_ (by assumption) | refine Blk.bl ?_ (bl_alloc _ _) | refine Blk.bl ?_ (bl_drew _) | refine Blk.bl ?_ (by assumption) | refine Since.bl ?_ (bl_alloc _ _) | refine Since.bl ?_ (bl_drew _) | refine Since.bl ?_ (by assumption) | refine Blk.other ?_ (by (try dsimp only); (try simp only [World.size_alloc, World.size_setCell, szDrew]); omega) _))
          · refine Since.below ?_
            (repeat (first | assumption | exact Blk.new _ _ _ | exact Since.refl _ | refine ArgRd.bl ?_ (bl_alloc _ _) | refine ArgRd.bl ?_ (bl_drew _) | refine ArgRd.bl ?_ (by assumption) | refine Copy.bl ?_ (bl_alloc _ _) | refine Copy.bl ?_ (bl_drew _) | refine Copy.bl ?_ (by assumption) | refine OwnStrs.bl ?_ (bl_alloc _ _) | refine OwnStrs.bl ?_ (bl_drew _) | refine OwnStrs.bl ?_ (by assumption) | refine Blk.bl ?_ (bl_alloc _ _) | refine Blk.bl ?_ (bl_drew _) | refine Blk.bl ?_ (by assumption) | refine Since.bl ?_ (bl_alloc _ _) | refine Since.bl ?_ (bl_drew _) | refine Since.bl ?_ (by assumption) | refine Blk.other ?_ (by (try dsimp only); (try simp only [World.size_alloc, World.size_setCell, szDrew]); omega) _))
          · (try simp only [World.size_alloc, World.size_setCell, szDrew])
            omega
          · intro k hk e
            have := bW0 k hk
            (try simp only [World.size_alloc, World.size_setCell, szDrew] at this e)
            omega
        | refine ⟨_, _, _, rfl, rfl, cut_strs2 (lo := w1.heap.size) ?_ (Nat.le_refl _) ?_⟩
          · (repeat (first | assumption | exact Blk.new _ _ _ | exact Since.refl _ | refine ArgRd.bl ?_ (bl_alloc _ _) | refine ArgRd.bl ?_ (bl_drew _) | refine ArgRd.bl ?_ (by assumption) | refine Copy.bl ?_ (bl_alloc _ _) | refine Copy.bl ?_ (bl_drew _) | refine Copy.bl ?_ (by assumption) | refine OwnStrs.bl ?_ (bl_alloc _ _) | refine OwnStrs.bl ?_ (bl_drew _) | refine OwnStrs.bl ?_ (by assumption) | refine Blk.bl ?_ (bl_alloc _ _) | refine Blk.bl ?_ (bl_drew _) | refine Blk.bl ?_ (by assumption) | refine Since.bl ?_ (bl_alloc _ _) | refine Since.bl ?_ (bl_drew _) | refine Since.bl ?_ (by assumption) | refine Blk.other ?_ (by (try dsimp only); (try simp only [World.size_alloc, World.size_setCell, szDrew]); omega) _))
          · refine Since.below ?_
            (repeat (first | assumption | exact Blk.new _ _ _ | exact Since.refl _ | refine ArgRd.bl ?_ (bl_alloc _ _) | refine ArgRd.bl ?_ (bl_drew _) | refine ArgRd.bl ?_ (by assumption) | refine Copy.bl ?_ (bl_alloc _ _) | refine Copy.bl ?_ (bl_drew _) | refine Copy.bl ?_ (by assumption) | refine OwnStrs.bl ?_ (bl_alloc _ _) | refine OwnStrs.bl ?_ (bl_drew _) | refine OwnStrs.bl ?_ (by assumption) | refine Blk.bl ?_ (bl_alloc _ _) | refine Blk.bl ?_ (bl_drew _) | refine Blk.bl ?_ (by assumption) | refine Since.bl ?_ (bl_alloc _ _) | refine Since.bl ?_ (bl_drew _) | refine Since.bl ?_ (by assumption) | refine Blk.other ?_ (by (try dsimp only); (try simp only [World.size_alloc, World.size_setCell, szDrew]); omega) _))
    obtain ⟨nb1, pW0, dW0, rfl, rfl, hcut1⟩ := hcut
    have ew1 : ∃ w', w' = wc := ⟨wc, rfl⟩
    obtain ⟨w2, ew1⟩ := ew1
    subst ew1
    have hbz := hcut1.below
    replace R0 := R0.bl hbz
    replace S := S.bl hbz
    replace A0 := A0.bl hbz
    replace A1 := A1.bl hbz
    have z_2 := hbz.size
    (try simp only [World.size_alloc, World.size_setCell, szDrew] at z_2)
    clear hbz y_101
    have B1 := hcut1.blk
    have OW0 := hcut1.own
    have bW0 := OW0.ge
    have ge1 := hcut1.ge
    (try simp only [World.size_alloc, World.size_setCell, szDrew] at ge1 bW0)
    have lt1 := B1.lt
    have ne1 := hcut1.ne
    clear hcut1
    have kA0_0 := A0.cell 0 rfl
    have kA1_0 := A1.cell 0 rfl
    have kA1_1 := A1.cell 1 rfl
    have kB1_0 := B1.cell 0 rfl
    go_wp2_with fail
    refine (toPicture_x R0 hn0).mono ?_
    rintro e w3 ⟨gY2, rfl, Y2, hgY2, hb⟩
    replace R0 := R0.bl hb
    replace S := S.bl hb
    replace A0 := A0.bl hb
    replace A1 := A1.bl hb
    replace OW0 := OW0.bl hb
    replace B1 := B1.bl hb
    have z_3 := hb.size
    (try simp only [World.size_alloc, World.size_setCell, szDrew] at z_3)
    have lY2 := Y2.lt
    (try simp only [World.size_alloc, World.size_setCell, szDrew] at hgY2)
    clear hb
    clear kA0_0 kA1_0 kA1_1 kB1_0
    have kA0_0 := A0.cell 0 rfl
    have kA1_0 := A1.cell 0 rfl
    have kA1_1 := A1.cell 1 rfl
    have kB1_0 := B1.cell 0 rfl
    replace R0 := R0.bl (bl_alloc w3 (.cells #[.slice (some ⟨gY2, 0, none⟩) ss.length ss.length] 28))
    replace S := S.bl (bl_alloc w3 (.cells #[.slice (some ⟨gY2, 0, none⟩) ss.length ss.length] 28))
    replace A0 := A0.bl (bl_alloc w3 (.cells #[.slice (some ⟨gY2, 0, none⟩) ss.length ss.length] 28))
    replace A1 := A1.bl (bl_alloc w3 (.cells #[.slice (some ⟨gY2, 0, none⟩) ss.length ss.length] 28))
    replace OW0 := OW0.bl (bl_alloc w3 (.cells #[.slice (some ⟨gY2, 0, none⟩) ss.length ss.length] 28))
    replace B1 := B1.bl (bl_alloc w3 (.cells #[.slice (some ⟨gY2, 0, none⟩) ss.length ss.length] 28))
    replace Y2 := Y2.bl (bl_alloc w3 (.cells #[.slice (some ⟨gY2, 0, none⟩) ss.length ss.length] 28))
    have B2 := Blk.new w3 #[.slice (some ⟨gY2, 0, none⟩) ss.length ss.length] 28
    (try simp only [World.size_alloc] at B2)
    clear kA0_0 kA1_0 kA1_1 kB1_0
    have kA0_0 := A0.cell 0 rfl
    have kA1_0 := A1.cell 0 rfl
    have kA1_1 := A1.cell 1 rfl
    have kB1_0 := B1.cell 0 rfl
    have kB2_0 := B2.cell 0 rfl
    clear kA0_0 kA1_0 kA1_1 kB1_0 kB2_0
    have y_102 := bl_drew (w3.alloc (.cells #[.slice (some ⟨gY2, 0, none⟩) ss.length ss.length] 28))
    go_upto_region 7 with (fail)
    go_cut [13, 14] (fun s13 s14 wx => ∃ nb p d, s13 = .pointer (some ⟨nb, 0, none⟩) ∧ s14 = (.bool (cropOk ss x y wd ht)) ∧ CutStrs (w3.alloc (.cells #[.slice (some ⟨gY2, 0, none⟩) ss.length ss.length] 28)) nb p d (cropL ss x y wd ht) 28 wx)
    case first =>
      have R0_o := R0
      replace R0 := R0.bl y_102
      have S_o := S
      replace S := S.bl y_102
      have A0_o := A0
      replace A0 := A0.bl y_102
      have A1_o := A1
      replace A1 := A1.bl y_102
      have B1_o := B1
      replace B1 := B1.bl y_102
      have Y2_o := Y2
      replace Y2 := Y2.bl y_102
      have B2_o := B2
      replace B2 := B2.bl y_102
      have Z := (Since.refl (w3.alloc (.cells #[.slice (some ⟨gY2, 0, none⟩) ss.length ss.length] 28))).bl y_102
      have kB2_0 := B2.cell 0 rfl
      have kA1_0 := A1.cell 0 rfl
      have kA1_1 := A1.cell 1 rfl
      have q_B2 := B2.lt
      have q_A1 := A1.lt
      (try simp only [World.size_alloc, World.size_setCell, szDrew] at q_B2 q_A1)
      go_region_held3 (fun w' => w'.cell? ⟨w3.heap.size, 0, none⟩ = some (.slice (some ⟨gY2, 0, none⟩) ss.length ss.length) ∧ w'.cell? ⟨w.heap.size + 1, 0, none⟩ = some (.int .i64 x) ∧ w'.cell? ⟨w.heap.size + 1, 1, none⟩ = some (.int .i64 y))
        (first | exact ⟨kB2_0, kA1_0, kA1_1⟩ | exact ⟨Blk.cell (b := w3.heap.size) (cs := #[.slice (some ⟨gY2, 0, none⟩) ss.length ss.length]) (t := 28) (by (repeat (first | assumption | exact Blk.new _ _ _ | exact Since.refl _ | refine ArgRd.bl ?_ (bl_alloc _ _) | refine ArgRd.bl ?_ (bl_drew _) | refine ArgRd.bl ?_ (by assumption) | refine Copy.bl ?_ (bl_alloc _ _) | refine Copy.bl ?_ (bl_drew _) | refine Copy.bl ?_ (by assumption) | refine OwnStrs.bl ?_ (bl_alloc _ _) | refine OwnStrs.bl ?_ (bl_drew _) | refine OwnStrs.bl ?_ (by assumption) | refine Blk.bl ?_ (bl_alloc _ _) | refine Blk.bl ?_ (bl_drew _) | refine Blk.bl ?_ (by assumption) | refine Since.bl ?_ (bl_alloc _ _) | refine Since.bl ?_ (bl_drew _) | refine Since.bl ?_ (by assumption) | refine Blk.other ?_ (by (try dsimp only); (try simp only [World.size_alloc, World.size_setCell, szDrew]); omega) _))) 0 rfl, Blk.cell (b := w.heap.size + 1) (cs := #[.int .i64 x, .int .i64 y]) (t := 52) (by (repeat (first | assumption | exact Blk.new _ _ _ | exact Since.refl _ | refine ArgRd.bl ?_ (bl_alloc _ _) | refine ArgRd.bl ?_ (bl_drew _) | refine ArgRd.bl ?_ (by assumption) | refine Copy.bl ?_ (bl_alloc _ _) | refine Copy.bl ?_ (bl_drew _) | refine Copy.bl ?_ (by assumption) | refine OwnStrs.bl ?_ (bl_alloc _ _) | refine OwnStrs.bl ?_ (bl_drew _) | refine OwnStrs.bl ?_ (by assumption) | refine Blk.bl ?_ (bl_alloc _ _) | refine Blk.bl ?_ (bl_drew _) | refine Blk.bl ?_ (by assumption) | refine Since.bl ?_ (bl_alloc _ _) | refine Since.bl ?_ (bl_drew _) | refine Since.bl ?_ (by assumption) | refine Blk.other ?_ (by (try dsimp only); (try simp only [World.size_alloc, World.size_setCell, szDrew]); omega) _))) 0 rfl, Blk.cell (b := w.heap.size + 1) (cs := #[.int .i64 x, .int .i64 y]) (t := 52) (by (repeat (first | assumption | exact Blk.new _ _ _ | exact Since.refl _ | refine ArgRd.bl ?_ (bl_alloc _ _) | refine ArgRd.bl ?_ (bl_drew _) | refine ArgRd.bl ?_ (by assumption) | refine Copy.bl ?_ (bl_alloc _ _) | refine Copy.bl ?_ (bl_drew _) | refine Copy.bl ?_ (by assumption) | refine OwnStrs.bl ?_ (bl_alloc _ _) | refine OwnStrs.bl ?_ (bl_drew _) | refine OwnStrs.bl ?_ (by assumption) | refine Blk.bl ?_ (bl_alloc _ _) | refine Blk.bl ?_ (bl_drew _) | refine Blk.bl ?_ (by assumption) | refine Since.bl ?_ (bl_alloc _ _) | refine Since.bl ?_ (bl_drew _) | refine Since.bl ?_ (by assumption) | refine Blk.other ?_ (by (try dsimp only); (try simp only [World.size_alloc, World.size_setCell, szDrew]); omega) _))) 1 rfl⟩)
        ((first | (go_at_call 42; (with_reducible refine (toSpot2_any _ _ _).mono ?_); rintro e x4 ⟨rfl, hc_4⟩; have s_hc_4 := hc_4.size; (try simp only [World.size_alloc, World.size_setCell, szDrew] at s_hc_4)) | (go_at_call 43; (with_reducible refine (cropPicture_any _ _ ss x y wd ht _ hn0 hs0 (Copy.rd (g := gY2) (t := 9) ?_)).mono ?_); (focus ((repeat (first | assumption | exact Blk.new _ _ _ | exact Since.refl _ | refine ArgRd.bl ?_ (bl_alloc _ _) | refine ArgRd.bl ?_ (bl_drew _) | refine ArgRd.bl ?_ (by assumption) | refine Copy.bl ?_ (bl_alloc _ _) | refine Copy.bl ?_ (bl_drew _) | refine Copy.bl ?_ (by assumption) | refine OwnStrs.bl ?_ (bl_alloc _ _) | refine OwnStrs.bl ?_ (bl_drew _) | refine OwnStrs.bl ?_ (by assumption) | refine Blk.bl ?_ (bl_alloc _ _) | refine Blk.bl ?_ (bl_drew _) | refine Blk.bl ?_ (by assumption) | refine Since.bl ?_ (bl_alloc _ _) | refine Since.bl ?_ (bl_drew _) | refine Since.bl ?_ (by assumption) | refine Blk.other ?_ (by (try dsimp only); (try simp only [World.size_alloc, World.size_setCell, szDrew]); omega) _)); done)); rintro e x5 ⟨vG0, rfl, OG0, hc_5⟩; obtain ⟨pG0, dG0, rfl⟩ := OG0.form; have bG0 := OG0.ge; have s_hc_5 := hc_5.size; (try simp only [World.size_alloc, World.size_setCell, szDrew] at s_hc_5); replace OG0 : OwnStrs (w3.alloc (.cells #[.slice (some ⟨gY2, 0, none⟩) ss.length ss.length] 28)).heap.size _ _ _ := OG0.mono (by (try simp only [World.size_alloc, World.size_setCell, szDrew] at *); omega); (first | have NB := Blk.bl (Blk.new _ _ _) hc_5 | have NB := Blk.bl (Blk.bl (Blk.bl (Blk.new _ _ _) (bl_drew _)) hc_4) hc_5 | skip); (try simp only [World.size_alloc, World.size_setCell, szDrew] at NB); (try (have NB_c := NB.cell 0 rfl; have NB_g := NB.frozen 0)))))
      all_goals
        (try simp only [World.size_alloc, World.size_setCell, szDrew] at s_hc_4 s_hc_5)
        go_wp2_with fail
        go_meet
        first
        | refine ⟨_, _, _, rfl, rfl, cut_strs (lo := (w3.alloc (.cells #[.slice (some ⟨gY2, 0, none⟩) ss.length ss.length] 28)).heap.size) (z := .slice none 0 0) ?_ ?_ (Nat.le_refl _) ?_ ?_ ?_⟩
          · (repeat (first | assumption | exact Blk.new _ _ _ | exact Since.refl _ | refine ArgRd.bl ?_ (bl_alloc _ _) | refine ArgRd.bl ?_ (bl_drew _) | refine ArgRd.bl ?_ (by assumption) | refine Copy.bl ?_ (bl_alloc _ _) | refine Copy.bl ?_ (bl_drew _) | refine Copy.bl ?_ (by assumption) | refine OwnStrs.bl ?_ (bl_alloc _ _) | refine OwnStrs.bl ?_ (bl_drew _) | refine OwnStrs.bl ?_ (by assumption) | refine Blk.bl ?_ (bl_alloc _ _) | refine Blk.bl ?_ (bl_drew _) | refine Blk.bl ?_ (by assumption) | refine Since.bl ?_ (bl_alloc _ _) | refine Since.bl ?_ (bl_drew _) | refine Since.bl ?_ (by assumption) | refine Blk.other ?_ (by (try dsimp only); (try simp only [World.size_alloc, World.size_setCell, szDrew]); omega) _))
          · (repeat (first | assumption | exact Blk.new _ _ _ | exact Since.refl _ | refine ArgRd.bl ?_ (bl_alloc _ _) | refine ArgRd.bl ?_ (bl_drew _) | refine ArgRd.bl ?_ (by assumption) | refine Copy.bl ?_ (bl_alloc _ _) | refine Copy.bl ?_ (bl_drew _) | refine Copy.bl ?_ (by assumption) | refine OwnStrs.bl ?_ (bl_alloc _ _) | refine OwnStrs.bl ?_ (bl_drew _) | refine OwnStrs.bl ?_ (by assumption) | refine Blk.bl ?_ (bl_alloc _ _) | refine Blk.bl ?_ (bl_drew _) | refine Blk.bl ?_ (by assumption) | refine Since.bl ?_ (bl_alloc _ _) | refine Since.bl ?_ (bl_drew _) | refine Since.bl ?_ (by assumption) | refine Blk.other ?_ (by (try dsimp only); (try simp only [World.size_alloc, World.size_setCell, szDrew]); omega) _))
          · refine Since.below ?_
            (repeat (first | assumption | exact Blk.new _ _ _ | exact Since.refl _ | refine ArgRd.bl ?_ (bl_alloc _ _) | refine ArgRd.bl ?_ (bl_drew _) | refine ArgRd.bl ?_ (by assumption) | refine Copy.bl ?_ (bl_alloc _ _) | refine Copy.bl ?_ (bl_drew _) | refine Copy.bl ?_ (by assumption) | refine OwnStrs.bl ?_ (bl_alloc _ _) | refine OwnStrs.bl ?_ (bl_drew _) | refine OwnStrs.bl ?_ (by assumption) | refine Blk.bl ?_ (bl_alloc _ _) | refine Blk.bl ?_ (bl_drew _) | refine Blk.bl ?_ (by assumption) | refine Since.bl ?_ (bl_alloc _ _) | refine Since.bl ?_ (bl_drew _) | refine Since.bl ?_ (by assumption) | refine Blk.other ?_ (by (try dsimp only); (try simp only [World.size_alloc, World.size_setCell, szDrew]); omega) _))
          · (try simp only [World.size_alloc, World.size_setCell, szDrew])
            omega
          · intro k hk e
            have := bG0 k hk
            (try simp only [World.size_alloc, World.size_setCell, szDrew] at this e)
            omega
        | refine ⟨_, _, _, rfl, rfl, cut_strs2 (lo := (w3.alloc (.cells #[.slice (some ⟨gY2, 0, none⟩) ss.length ss.length] 28)).heap.size) ?_ (Nat.le_refl _) ?_⟩
          · (repeat (first | assumption | exact Blk.new _ _ _ | exact Since.refl _ | refine ArgRd.bl ?_ (bl_alloc _ _) | refine ArgRd.bl ?_ (bl_drew _) | refine ArgRd.bl ?_ (by assumption) | refine Copy.bl ?_ (bl_alloc _ _) | refine Copy.bl ?_ (bl_drew _) | refine Copy.bl ?_ (by assumption) | refine OwnStrs.bl ?_ (bl_alloc _ _) | refine OwnStrs.bl ?_ (bl_drew _) | refine OwnStrs.bl ?_ (by assumption) | refine Blk.bl ?_ (bl_alloc _ _) | refine Blk.bl ?_ (bl_drew _) | refine Blk.bl ?_ (by assumption) | refine Since.bl ?_ (bl_alloc _ _) | refine Since.bl ?_ (bl_drew _) | refine Since.bl ?_ (by assumption) | refine Blk.other ?_ (by (try dsimp only); (try simp only [World.size_alloc, World.size_setCell, szDrew]); omega) _))
          · refine Since.below ?_
            (repeat (first | assumption | exact Blk.new _ _ _ | exact Since.refl _ | refine ArgRd.bl ?_ (bl_alloc _ _) | refine ArgRd.bl ?_ (bl_drew _) | refine ArgRd.bl ?_ (by assumption) | refine Copy.bl ?_ (bl_alloc _ _) | refine Copy.bl ?_ (bl_drew _) | refine Copy.bl ?_ (by assumption) | refine OwnStrs.bl ?_ (bl_alloc _ _) | refine OwnStrs.bl ?_ (bl_drew _) | refine OwnStrs.bl ?_ (by assumption) | refine Blk.bl ?_ (bl_alloc _ _) | refine Blk.bl ?_ (bl_drew _) | refine Blk.bl ?_ (by assumption) | refine Since.bl ?_ (bl_alloc _ _) | refine Since.bl ?_ (bl_drew _) | refine Since.bl ?_ (by assumption) | refine Blk.other ?_ (by (try dsimp only); (try simp only [World.size_alloc, World.size_setCell, szDrew]); omega) _))
    obtain ⟨nb2, pG0, dG0, rfl, rfl, hcut2⟩ := hcut
    have ew2 : ∃ w', w' = wc := ⟨wc, rfl⟩
    obtain ⟨w4, ew2⟩ := ew2
    subst ew2
    have hbz := hcut2.below
    replace R0 := R0.bl hbz
    replace S := S.bl hbz
    replace A0 := A0.bl hbz
    replace A1 := A1.bl hbz
    replace OW0 := OW0.bl hbz
    replace B1 := B1.bl hbz
    replace Y2 := Y2.bl hbz
    replace B2 := B2.bl hbz
    have z_4 := hbz.size
    (try simp only [World.size_alloc, World.size_setCell, szDrew] at z_4)
    clear hbz y_102
    have B3 := hcut2.blk
    have OG0 := hcut2.own
    have bG0 := OG0.ge
    have ge2 := hcut2.ge
    (try simp only [World.size_alloc, World.size_setCell, szDrew] at ge2 bG0)
    have lt2 := B3.lt
    have ne2 := hcut2.ne
    clear hcut2
    have kA0_0 := A0.cell 0 rfl
    have kA1_0 := A1.cell 0 rfl
    have kA1_1 := A1.cell 1 rfl
    have kB1_0 := B1.cell 0 rfl
    have kB2_0 := B2.cell 0 rfl
    have kB3_0 := B3.cell 0 rfl
    go_wp2_with fail
    refine (eqPicture_same _ _ _ _ (cropL ss x y wd ht) _ (cropL_len ss x y wd ht hn0) OG0.rd OW0.rd).mono ?_
    rintro e w5 ⟨rfl, hb⟩
    replace R0 := R0.bl hb
    replace S := S.bl hb
    replace A0 := A0.bl hb
    replace A1 := A1.bl hb
    replace OW0 := OW0.bl hb
    replace B1 := B1.bl hb
    replace Y2 := Y2.bl hb
    replace B2 := B2.bl hb
    replace OG0 := OG0.bl hb
    replace B3 := B3.bl hb
    have z_5 := hb.size
    (try simp only [World.size_alloc, World.size_setCell, szDrew] at z_5)
    clear hb
    clear kA0_0 kA1_0 kA1_1 kB1_0 kB2_0 kB3_0
    have kA0_0 := A0.cell 0 rfl
    have kA1_0 := A1.cell 0 rfl
    have kA1_1 := A1.cell 1 rfl
    have kB1_0 := B1.cell 0 rfl
    have kB2_0 := B2.cell 0 rfl
    have kB3_0 := B3.cell 0 rfl
    have y_0 := bl_drew w5
    replace R0 := R0.bl y_0
    replace S := S.bl y_0
    replace A0 := A0.bl y_0
    replace A1 := A1.bl y_0
    replace OW0 := OW0.bl y_0
    replace B1 := B1.bl y_0
    replace Y2 := Y2.bl y_0
    replace B2 := B2.bl y_0
    replace OG0 := OG0.bl y_0
    replace B3 := B3.bl y_0
    clear y_0
    clear kA0_0 kA1_0 kA1_1 kB1_0 kB2_0 kB3_0
    have kB2_0 := B2.cell 0 rfl
    have kA0_0 := A0.cell 0 rfl
    go_wp2_with fail
    go_region_held3 (fun w' => w'.cell? ⟨w3.heap.size, 0, none⟩ = some (.slice (some ⟨gY2, 0, none⟩) ss.length ss.length) ∧ w'.cell? ⟨w.heap.size, 0, none⟩ = some (.slice p0 ss.length c0))
      (first | exact ⟨B2.cell 0 rfl, A0.cell 0 rfl⟩ | exact ⟨(B2.bl hb_6).cell 0 rfl, (A0.bl hb_6).cell 0 rfl⟩ | exact ⟨((B2.bl hb_6).bl hb_7).cell 0 rfl, ((A0.bl hb_6).bl hb_7).cell 0 rfl⟩)
      ((first | (go_at_call 17; with_reducible (refine (toPicture_x R0 hn0).mono ?_); rintro e w6 ⟨gY3, rfl, Y3, hgY3, hb_6⟩; have lY3 := Y3.lt) | (go_at_call 19; with_reducible (refine (eqPicture_same _ _ _ _ ss _ hn0 (Y2.bl hb_6).rd Y3.rd).mono ?_); rintro e w7 ⟨rfl, hb_7⟩)))
    replace R0 := R0.bl hb_6
    replace S := S.bl hb_6
    replace A0 := A0.bl hb_6
    replace A1 := A1.bl hb_6
    replace OW0 := OW0.bl hb_6
    replace B1 := B1.bl hb_6
    replace Y2 := Y2.bl hb_6
    replace B2 := B2.bl hb_6
    replace OG0 := OG0.bl hb_6
    replace B3 := B3.bl hb_6
    have z_6 := hb_6.size
    (try simp only [World.size_alloc, World.size_setCell, szDrew] at z_6)
    replace R0 := R0.bl hb_7
    replace S := S.bl hb_7
    replace A0 := A0.bl hb_7
    replace A1 := A1.bl hb_7
    replace OW0 := OW0.bl hb_7
    replace B1 := B1.bl hb_7
    replace Y2 := Y2.bl hb_7
    replace B2 := B2.bl hb_7
    replace OG0 := OG0.bl hb_7
    replace B3 := B3.bl hb_7
    replace Y3 := Y3.bl hb_7
    have z_7 := hb_7.size
    (try simp only [World.size_alloc, World.size_setCell, szDrew] at z_7)
    (try simp only [World.size_alloc, World.size_setCell, szDrew] at hgY3)
    clear hb_6 hb_7
    clear kB2_0 kA0_0
    have kA0_0 := A0.cell 0 rfl
    have kA1_0 := A1.cell 0 rfl
    have kA1_1 := A1.cell 1 rfl
    have kB1_0 := B1.cell 0 rfl
    have kB2_0 := B2.cell 0 rfl
    have kB3_0 := B3.cell 0 rfl
    go_wp2_with fail
    refine (markPicture_x _ Y2 hn0 _ (by omega) (by omega)).mono ?_
    rintro e w8 ⟨rfl, hb⟩
    replace R0 := R0.grown hb (fun g e => by cases e; omega)
    replace S := S.grow hb (fun g e => by cases e; omega)
    replace A0 := A0.grow hb (fun g e => by cases e; omega)
    replace A1 := A1.grow hb (fun g e => by cases e; omega)
    replace OW0 := OW0.grow hb (fun k g hk e => by cases e; have := bW0 k hk; omega)
    replace B1 := B1.grow hb (fun g e => by cases e; omega)
    replace B2 := B2.grow hb (fun g e => by cases e; omega)
    replace OG0 := OG0.grow hb (fun k g hk e => by cases e; have := bG0 k hk; omega)
    replace B3 := B3.grow hb (fun g e => by cases e; omega)
    replace Y3 := Y3.grow hb (fun g e => by cases e; omega)
    have z_8 := hb.size
    (try simp only [World.size_alloc, World.size_setCell, szDrew] at z_8)
    clear hb
    clear kA0_0 kA1_0 kA1_1 kB1_0 kB2_0 kB3_0
    have kA0_0 := A0.cell 0 rfl
    have kA1_0 := A1.cell 0 rfl
    have kA1_1 := A1.cell 1 rfl
    have kB1_0 := B1.cell 0 rfl
    have kB2_0 := B2.cell 0 rfl
    have kB3_0 := B3.cell 0 rfl
    go_wp2_with fail
    refine (eqPicture_same _ _ _ _ (cropL ss x y wd ht) _ (cropL_len ss x y wd ht hn0) OG0.rd OW0.rd).mono ?_
    rintro e w9 ⟨rfl, hb⟩
    replace R0 := R0.bl hb
    replace S := S.bl hb
    replace A0 := A0.bl hb
    replace A1 := A1.bl hb
    replace OW0 := OW0.bl hb
    replace B1 := B1.bl hb
    replace B2 := B2.bl hb
    replace OG0 := OG0.bl hb
    replace B3 := B3.bl hb
    replace Y3 := Y3.bl hb
    have z_9 := hb.size
    (try simp only [World.size_alloc, World.size_setCell, szDrew] at z_9)
    clear hb
    clear kA0_0 kA1_0 kA1_1 kB1_0 kB2_0 kB3_0
    have kA0_0 := A0.cell 0 rfl
    have kA1_0 := A1.cell 0 rfl
    have kA1_1 := A1.cell 1 rfl
    have kB1_0 := B1.cell 0 rfl
    have kB2_0 := B2.cell 0 rfl
    have kB3_0 := B3.cell 0 rfl
    go_wp2_with fail
    refine (markPicture_g OG0 (cropL_len ss x y wd ht hn0)).mono ?_
    rintro e w10 ⟨rfl, M0, hb⟩
    replace R0 := R0.grown hb (fun g e => by have := bG0 g e; omega)
    replace S := S.grow hb (fun g e => by have := bG0 g e; omega)
    replace A0 := A0.grow hb (fun g e => by first | (have := bG0 g e; omega) | (have := ne1 g e; omega) | (have := ne2 g e; omega))
    replace A1 := A1.grow hb (fun g e => by first | (have := bG0 g e; omega) | (have := ne1 g e; omega) | (have := ne2 g e; omega))
    replace OW0 := OW0.grow hb (fun k g hk e => by have := bW0 k hk; have := bG0 g e; omega)
    replace B1 := B1.grow hb (fun g e => by first | (have := bG0 g e; omega) | (have := ne1 g e; omega) | (have := ne2 g e; omega))
    replace B2 := B2.grow hb (fun g e => by first | (have := bG0 g e; omega) | (have := ne1 g e; omega) | (have := ne2 g e; omega))
    replace B3 := B3.grow hb (fun g e => by first | (have := bG0 g e; omega) | (have := ne1 g e; omega) | (have := ne2 g e; omega))
    replace Y3 := Y3.grow hb (fun g e => by first | (have := bG0 g e; omega) | (have := ne1 g e; omega) | (have := ne2 g e; omega))
    have z_10 := hb.size
    (try simp only [World.size_alloc, World.size_setCell, szDrew] at z_10)
    clear hb
    clear kA0_0 kA1_0 kA1_1 kB1_0 kB2_0 kB3_0
    have kA0_0 := A0.cell 0 rfl
    have kA1_0 := A1.cell 0 rfl
    have kA1_1 := A1.cell 1 rfl
    have kB1_0 := B1.cell 0 rfl
    have kB2_0 := B2.cell 0 rfl
    have kB3_0 := B3.cell 0 rfl
    go_wp2_with fail
    refine (heldPicture_g _ M0 (cropL_len ss x y wd ht hn0)).mono ?_
    rintro e w11 ⟨rfl, hb⟩
    replace R0 := R0.bl hb
    replace S := S.bl hb
    replace A0 := A0.bl hb
    replace A1 := A1.bl hb
    replace OW0 := OW0.bl hb
    replace B1 := B1.bl hb
    replace B2 := B2.bl hb
    replace B3 := B3.bl hb
    replace Y3 := Y3.bl hb
    replace M0 := M0.bl hb
    have z_11 := hb.size
    (try simp only [World.size_alloc, World.size_setCell, szDrew] at z_11)
    clear hb
    clear kA0_0 kA1_0 kA1_1 kB1_0 kB2_0 kB3_0
    have kA0_0 := A0.cell 0 rfl
    have kA1_0 := A1.cell 0 rfl
    have kA1_1 := A1.cell 1 rfl
    have kB1_0 := B1.cell 0 rfl
    have kB2_0 := B2.cell 0 rfl
    have kB3_0 := B3.cell 0 rfl
    clear kA0_0 kA1_0 kA1_1 kB1_0 kB2_0 kB3_0
    have y_103 := bl_drew w11
    go_upto_region 24 with (fail)
    go_cut [18, 19] (fun s18 s19 wx => ∃ nb p d, s18 = .pointer (some ⟨nb, 0, none⟩) ∧ s19 = (.bool (cropOk ss x y wd ht)) ∧ CutStrs w11 nb p d (cropL ss x y wd ht) 28 wx)
    case first =>
      have R0_o := R0
      replace R0 := R0.bl y_103
      have S_o := S
      replace S := S.bl y_103
      have A0_o := A0
      replace A0 := A0.bl y_103
      have A1_o := A1
      replace A1 := A1.bl y_103
      have B1_o := B1
      replace B1 := B1.bl y_103
      have B2_o := B2
      replace B2 := B2.bl y_103
      have B3_o := B3
      replace B3 := B3.bl y_103
      have Y3_o := Y3
      replace Y3 := Y3.bl y_103
      clear M0
      have Z := (Since.refl w11).bl y_103
      have kA0_0 := A0.cell 0 rfl
      have kA1_0 := A1.cell 0 rfl
      have kA1_1 := A1.cell 1 rfl
      have q_A0 := A0.lt
      have q_A1 := A1.lt
      (try simp only [World.size_alloc, World.size_setCell, szDrew] at q_A0 q_A1)
      go_region_held3 (fun w' => w'.cell? ⟨w.heap.size, 0, none⟩ = some (.slice p0 ss.length c0) ∧ w'.cell? ⟨w.heap.size + 1, 0, none⟩ = some (.int .i64 x) ∧ w'.cell? ⟨w.heap.size + 1, 1, none⟩ = some (.int .i64 y))
        (first | exact ⟨kA0_0, kA1_0, kA1_1⟩ | exact ⟨Blk.cell (b := w.heap.size) (cs := #[.slice p0 ss.length c0]) (t := 24) (by (repeat (first | assumption | exact Blk.new _ _ _ | exact Since.refl _ | refine ArgRd.bl ?_ (bl_alloc _ _) | refine ArgRd.bl ?_ (bl_drew _) | refine ArgRd.bl ?_ (by assumption) | refine Copy.bl ?_ (bl_alloc _ _) | refine Copy.bl ?_ (bl_drew _) | refine Copy.bl ?_ (by assumption) | refine OwnStrs.bl ?_ (bl_alloc _ _) | refine OwnStrs.bl ?_ (bl_drew _) | refine OwnStrs.bl ?_ (by assumption) | refine Blk.bl ?_ (bl_alloc _ _) | refine Blk.bl ?_ (bl_drew _) | refine Blk.bl ?_ (by assumption) | refine Since.bl ?_ (bl_alloc _ _) | refine Since.bl ?_ (bl_drew _) | refine Since.bl ?_ (by assumption) | refine Blk.other ?_ (by (try dsimp only); (try simp only [World.size_alloc, World.size_setCell, szDrew]); omega) _))) 0 rfl, Blk.cell (b := w.heap.size + 1) (cs := #[.int .i64 x, .int .i64 y]) (t := 52) (by (repeat (first | assumption | exact Blk.new _ _ _ | exact Since.refl _ | refine ArgRd.bl ?_ (bl_alloc _ _) | refine ArgRd.bl ?_ (bl_drew _) | refine ArgRd.bl ?_ (by assumption) | refine Copy.bl ?_ (bl_alloc _ _) | refine Copy.bl ?_ (bl_drew _) | refine Copy.bl ?_ (by assumption) | refine OwnStrs.bl ?_ (bl_alloc _ _) | refine OwnStrs.bl ?_ (bl_drew _) | refine OwnStrs.bl ?_ (by assumption) | refine Blk.bl ?_ (bl_alloc _ _) | refine Blk.bl ?_ (bl_drew _) | refine Blk.bl ?_ (by assumption) | refine Since.bl ?_ (bl_alloc _ _) | refine Since.bl ?_ (bl_drew _) | refine Since.bl ?_ (by assumption) | refine Blk.other ?_ (by (try dsimp only); (try simp only [World.size_alloc, World.size_setCell, szDrew]); omega) _))) 0 rfl, Blk.cell (b := w.heap.size + 1) (cs := #[.int .i64 x, .int .i64 y]) (t := 52) (by (repeat (first | assumption | exact Blk.new _ _ _ | exact Since.refl _ | refine ArgRd.bl ?_ (bl_alloc _ _) | refine ArgRd.bl ?_ (bl_drew _) | refine ArgRd.bl ?_ (by assumption) | refine Copy.bl ?_ (bl_alloc _ _) | refine Copy.bl ?_ (bl_drew _) | refine Copy.bl ?_ (by assumption) | refine OwnStrs.bl ?_ (bl_alloc _ _) | refine OwnStrs.bl ?_ (bl_drew _) | refine OwnStrs.bl ?_ (by assumption) | refine Blk.bl ?_ (bl_alloc _ _) | refine Blk.bl ?_ (bl_drew _) | refine Blk.bl ?_ (by assumption) | refine Since.bl ?_ (bl_alloc _ _) | refine Since.bl ?_ (bl_drew _) | refine Since.bl ?_ (by assumption) | refine Blk.other ?_ (by (try dsimp only); (try simp only [World.size_alloc, World.size_setCell, szDrew]); omega) _))) 1 rfl⟩)
        ((first | (go_at_call 17; (with_reducible refine (toPicture_x (B := w.heap.size) ?_ hn0).mono ?_); (focus ((repeat (first | assumption | exact Blk.new _ _ _ | exact Since.refl _ | refine ArgRd.bl ?_ (bl_alloc _ _) | refine ArgRd.bl ?_ (bl_drew _) | refine ArgRd.bl ?_ (by assumption) | refine Copy.bl ?_ (bl_alloc _ _) | refine Copy.bl ?_ (bl_drew _) | refine Copy.bl ?_ (by assumption) | refine OwnStrs.bl ?_ (bl_alloc _ _) | refine OwnStrs.bl ?_ (bl_drew _) | refine OwnStrs.bl ?_ (by assumption) | refine Blk.bl ?_ (bl_alloc _ _) | refine Blk.bl ?_ (bl_drew _) | refine Blk.bl ?_ (by assumption) | refine Since.bl ?_ (bl_alloc _ _) | refine Since.bl ?_ (bl_drew _) | refine Since.bl ?_ (by assumption) | refine Blk.other ?_ (by (try dsimp only); (try simp only [World.size_alloc, World.size_setCell, szDrew]); omega) _)); done)); rintro e x6 ⟨gY4, rfl, Y4, hgY4, hc_6⟩; have s_hc_6 := hc_6.size; (try simp only [World.size_alloc, World.size_setCell, szDrew] at s_hc_6)) | (go_at_call 42; (with_reducible refine (toSpot2_any _ _ _).mono ?_); rintro e x7 ⟨rfl, hc_7⟩; have s_hc_7 := hc_7.size; (try simp only [World.size_alloc, World.size_setCell, szDrew] at s_hc_7)) | (go_at_call 43; (with_reducible refine (cropPicture_any _ _ ss x y wd ht _ hn0 hs0 (Copy.rd (g := gY4) (t := 9) ?_)).mono ?_); (focus ((repeat (first | assumption | exact Blk.new _ _ _ | exact Since.refl _ | refine ArgRd.bl ?_ (bl_alloc _ _) | refine ArgRd.bl ?_ (bl_drew _) | refine ArgRd.bl ?_ (by assumption) | refine Copy.bl ?_ (bl_alloc _ _) | refine Copy.bl ?_ (bl_drew _) | refine Copy.bl ?_ (by assumption) | refine OwnStrs.bl ?_ (bl_alloc _ _) | refine OwnStrs.bl ?_ (bl_drew _) | refine OwnStrs.bl ?_ (by assumption) | refine Blk.bl ?_ (bl_alloc _ _) | refine Blk.bl ?_ (bl_drew _) | refine Blk.bl ?_ (by assumption) | refine Since.bl ?_ (bl_alloc _ _) | refine Since.bl ?_ (bl_drew _) | refine Since.bl ?_ (by assumption) | refine Blk.other ?_ (by (try dsimp only); (try simp only [World.size_alloc, World.size_setCell, szDrew]); omega) _)); done)); rintro e x8 ⟨vH0, rfl, OH0, hc_8⟩; obtain ⟨pH0, dH0, rfl⟩ := OH0.form; have bH0 := OH0.ge; have s_hc_8 := hc_8.size; (try simp only [World.size_alloc, World.size_setCell, szDrew] at s_hc_8); replace OH0 : OwnStrs w11.heap.size _ _ _ := OH0.mono (by (try simp only [World.size_alloc, World.size_setCell, szDrew] at *); omega); (first | have NB := Blk.bl (Blk.new _ _ _) hc_8 | have NB := Blk.bl (Blk.bl (Blk.new _ _ _) hc_7) hc_8 | have NB := Blk.bl (Blk.bl (Blk.bl (Blk.bl (Blk.new _ _ _) (bl_drew _)) hc_6) hc_7) hc_8 | skip); (try simp only [World.size_alloc, World.size_setCell, szDrew] at NB); (try (have NB_c := NB.cell 0 rfl; have NB_g := NB.frozen 0)))))
      all_goals
        (try simp only [World.size_alloc, World.size_setCell, szDrew] at s_hc_6 s_hc_7 s_hc_8)
        go_wp2_with fail
        go_meet
        first
        | refine ⟨_, _, _, rfl, rfl, cut_strs (lo := w11.heap.size) (z := .slice none 0 0) ?_ ?_ (Nat.le_refl _) ?_ ?_ ?_⟩
          · (repeat (first | assumption | exact Blk.new _ _ _ | exact Since.refl _ | refine ArgRd.bl ?_ (bl_alloc _ _) | refine ArgRd.bl ?_ (bl_drew _) | refine ArgRd.bl ?_ (by assumption) | refine Copy.bl ?_ (bl_alloc _ _) | refine Copy.bl ?_ (bl_drew _) | refine Copy.bl ?_ (by assumption) | refine OwnStrs.bl ?_ (bl_alloc _ _) | refine OwnStrs.bl ?_ (bl_drew _) | refine OwnStrs.bl ?_ (by assumption) | refine Blk.bl ?_ (bl_alloc _ _) | refine Blk.bl ?_ (bl_drew _) | refine Blk.bl ?_ (by assumption) | refine Since.bl ?_ (bl_alloc _ _) | refine Since.bl ?_ (bl_drew _) | refine Since.bl ?_ (by assumption) | refine Blk.other ?_ (by (try dsimp only); (try simp only [World.size_alloc, World.size_setCell, szDrew]); omega) _))
          · (repeat (first | assumption | exact Blk.new _ _ _ | exact Since.refl _ | refine ArgRd.bl ?_ (bl_alloc _ _) | refine ArgRd.bl ?_ (bl_drew _) | refine ArgRd.bl ?_ (by assumption) | refine Copy.bl ?_ (bl_alloc _ _) | refine Copy.bl ?_ (bl_drew _) | refine Copy.bl ?_ (by assumption) | refine OwnStrs.bl ?_ (bl_alloc _ _) | refine OwnStrs.bl ?_ (bl_drew _) | refine OwnStrs.bl ?_ (by assumption) | refine Blk.bl ?_ (bl_alloc _ _) | refine Blk.bl ?_ (bl_drew _) | refine Blk.bl ?_ (by assumption) | refine Since.bl ?_ (bl_alloc _ _) | refine Since.bl ?_ (bl_drew _) | refine Since.bl ?_ (by assumption) | refine Blk.other ?_ (by (try dsimp only); (try simp only [World.size_alloc, World.size_setCell, szDrew]); omega) _))
          · refine Since.below ?_
            (repeat (first | assumption | exact Blk.new _ _ _ | exact Since.refl _ | refine ArgRd.bl ?_ (bl_alloc _ _) | refine ArgRd.bl ?_ (bl_drew _) | refine ArgRd.bl ?_ (by assumption) | refine Copy.bl ?_ (bl_alloc _ _) | refine Copy.bl ?_ (bl_drew _) | refine Copy.bl ?_ (by assumption) | refine OwnStrs.bl ?_ (bl_alloc _ _) | refine OwnStrs.bl ?_ (bl_drew _) | refine OwnStrs.bl ?_ (by assumption) | refine Blk.bl ?_ (bl_alloc _ _) | refine Blk.bl ?_ (bl_drew _) | refine Blk.bl ?_ (by assumption) | refine Since.bl ?_ (bl_alloc _ _) | refine Since.bl ?_ (bl_drew _) | refine Since.bl ?_ (by assumption) | refine Blk.other ?_ (by (try dsimp only); (try simp only [World.size_alloc, World.size_setCell, szDrew]); omega) _))
          · (try simp only [World.size_alloc, World.size_setCell, szDrew])
            omega
          · intro k hk e
            have := bH0 k hk
            (try simp only [World.size_alloc, World.size_setCell, szDrew] at this e)
            omega
        | refine ⟨_, _, _, rfl, rfl, cut_strs2 (lo := w11.heap.size) ?_ (Nat.le_refl _) ?_⟩
          · (repeat (first | assumption | exact Blk.new _ _ _ | exact Since.refl _ | refine ArgRd.bl ?_ (bl_alloc _ _) | refine ArgRd.bl ?_ (bl_drew _) | refine ArgRd.bl ?_ (by assumption) | refine Copy.bl ?_ (bl_alloc _ _) | refine Copy.bl ?_ (bl_drew _) | refine Copy.bl ?_ (by assumption) | refine OwnStrs.bl ?_ (bl_alloc _ _) | refine OwnStrs.bl ?_ (bl_drew _) | refine OwnStrs.bl ?_ (by assumption) | refine Blk.bl ?_ (bl_alloc _ _) | refine Blk.bl ?_ (bl_drew _) | refine Blk.bl ?_ (by assumption) | refine Since.bl ?_ (bl_alloc _ _) | refine Since.bl ?_ (bl_drew _) | refine Since.bl ?_ (by assumption) | refine Blk.other ?_ (by (try dsimp only); (try simp only [World.size_alloc, World.size_setCell, szDrew]); omega) _))
          · refine Since.below ?_
            (repeat (first | assumption | exact Blk.new _ _ _ | exact Since.refl _ | refine ArgRd.bl ?_ (bl_alloc _ _) | refine ArgRd.bl ?_ (bl_drew _) | refine ArgRd.bl ?_ (by assumption) | refine Copy.bl ?_ (bl_alloc _ _) | refine Copy.bl ?_ (bl_drew _) | refine Copy.bl ?_ (by assumption) | refine OwnStrs.bl ?_ (bl_alloc _ _) | refine OwnStrs.bl ?_ (bl_drew _) | refine OwnStrs.bl ?_ (by assumption) | refine Blk.bl ?_ (bl_alloc _ _) | refine Blk.bl ?_ (bl_drew _) | refine Blk.bl ?_ (by assumption) | refine Since.bl ?_ (bl_alloc _ _) | refine Since.bl ?_ (bl_drew _) | refine Since.bl ?_ (by assumption) | refine Blk.other ?_ (by (try dsimp only); (try simp only [World.size_alloc, World.size_setCell, szDrew]); omega) _))
    obtain ⟨nb3, pH0, dH0, rfl, rfl, hcut3⟩ := hcut
    have ew3 : ∃ w', w' = wc := ⟨wc, rfl⟩
    obtain ⟨w12, ew3⟩ := ew3
    subst ew3
    have hbz := hcut3.below
    replace R0 := R0.bl hbz
    replace S := S.bl hbz
    replace A0 := A0.bl hbz
    replace A1 := A1.bl hbz
    replace OW0 := OW0.bl hbz
    replace B1 := B1.bl hbz
    replace B2 := B2.bl hbz
    replace B3 := B3.bl hbz
    replace Y3 := Y3.bl hbz
    replace M0 := M0.bl hbz
    have z_12 := hbz.size
    (try simp only [World.size_alloc, World.size_setCell, szDrew] at z_12)
    clear hbz y_103
    have B4 := hcut3.blk
    have OH0 := hcut3.own
    have bH0 := OH0.ge
    have ge3 := hcut3.ge
    (try simp only [World.size_alloc, World.size_setCell, szDrew] at ge3 bH0)
    have lt3 := B4.lt
    have ne3 := hcut3.ne
    clear hcut3
    have kA0_0 := A0.cell 0 rfl
    have kA1_0 := A1.cell 0 rfl
    have kA1_1 := A1.cell 1 rfl
    have kB1_0 := B1.cell 0 rfl
    have kB2_0 := B2.cell 0 rfl
    have kB3_0 := B3.cell 0 rfl
    have kB4_0 := B4.cell 0 rfl
    go_wp2_with fail
    refine (eqPicture_same _ _ _ _ (cropL ss x y wd ht) _ (cropL_len ss x y wd ht hn0) OH0.rd OW0.rd).mono ?_
    rintro e w13 ⟨rfl, hb⟩
    replace R0 := R0.bl hb
    replace S := S.bl hb
    replace A0 := A0.bl hb
    replace A1 := A1.bl hb
    replace OW0 := OW0.bl hb
    replace B1 := B1.bl hb
    replace B2 := B2.bl hb
    replace B3 := B3.bl hb
    replace Y3 := Y3.bl hb
    replace M0 := M0.bl hb
    replace OH0 := OH0.bl hb
    replace B4 := B4.bl hb
    have z_13 := hb.size
    (try simp only [World.size_alloc, World.size_setCell, szDrew] at z_13)
    clear hb
    clear kA0_0 kA1_0 kA1_1 kB1_0 kB2_0 kB3_0 kB4_0
    have kA0_0 := A0.cell 0 rfl
    have kA1_0 := A1.cell 0 rfl
    have kA1_1 := A1.cell 1 rfl
    have kB1_0 := B1.cell 0 rfl
    have kB2_0 := B2.cell 0 rfl
    have kB3_0 := B3.cell 0 rfl
    have kB4_0 := B4.cell 0 rfl
    go_wp2_with fail
    refine (heldPicture_g _ M0 (cropL_len ss x y wd ht hn0)).mono ?_
    rintro e w14 ⟨rfl, hb⟩
    replace R0 := R0.bl hb
    replace S := S.bl hb
    replace A0 := A0.bl hb
    replace A1 := A1.bl hb
    replace OW0 := OW0.bl hb
    replace B1 := B1.bl hb
    replace B2 := B2.bl hb
    replace B3 := B3.bl hb
    replace Y3 := Y3.bl hb
    replace M0 := M0.bl hb
    replace OH0 := OH0.bl hb
    replace B4 := B4.bl hb
    have z_14 := hb.size
    (try simp only [World.size_alloc, World.size_setCell, szDrew] at z_14)
    clear hb
    clear kA0_0 kA1_0 kA1_1 kB1_0 kB2_0 kB3_0 kB4_0
    have kA0_0 := A0.cell 0 rfl
    have kA1_0 := A1.cell 0 rfl
    have kA1_1 := A1.cell 1 rfl
    have kB1_0 := B1.cell 0 rfl
    have kB2_0 := B2.cell 0 rfl
    have kB3_0 := B3.cell 0 rfl
    have kB4_0 := B4.cell 0 rfl
    clear kA0_0 kA1_0 kA1_1 kB1_0 kB2_0 kB3_0 kB4_0
    have kA0_0 := A0.cell 0 rfl
    have kA1_0 := A1.cell 0 rfl
    have kA1_1 := A1.cell 1 rfl
    have kB1_0 := B1.cell 0 rfl
    have kB2_0 := B2.cell 0 rfl
    have kB3_0 := B3.cell 0 rfl
    have kB4_0 := B4.cell 0 rfl
    go_wp2
    go_ret
    exact ⟨rfl, S.below⟩
open Go.ChangeShapes Go.WideShapes Go.ChangeAt
open Go.ChangeMaps (open_string shut_string)

set_option maxRecDepth 100000 in
theorem lifted (os : Os) (started : os.Started) (H : Type) (enc : TypeId × Value → H) :
    ReturnsInHanded {} Try.checked os 12 .any (Rows.fnExactCropPictureSpec.pre6 enc Try.prog Try.f12 Rows.fnExactCropPictureRow.domain false) (Rows.fnExactCropPictureSpec.post enc Try.prog Try.f12 false true false false) := by
  refine returnsInHanded_of_change (C := Try.checked) own started (by kernel_rfl) Try.func12
    (ChangeSpec.witness6 (enc := enc) (C := Try.checked) false ⟨#[], #[.agg #[.slice none 0 0], .agg #[.int .i64 0, .int .i64 0], .int .i64 0, .int .i64 0], []⟩ 8 (by kernel_rfl) (by kernel_rfl) (by kernel_rfl) (by kernel_rfl)) ?_
  intro W base args ds gs before hval0 hW hcnd _
  have hval : ∀ (j : Nat) t v, Try.f12.params[j]? = some t → args[j]? = some v → Value.okWide Try.prog W .any base t v := hval0
  have hW' := hW
  obtain ⟨p, q, hA0, hV, rfl, hfz, hnd⟩ := hW
  have hA : DataW.TrodAll enc Try.prog W 0 (fun _ => true) true Try.f12.params.toList args.toList ds p := hA0
  rw [Try.params12] at hA hval
  obtain ⟨v0, vs0, d0, ds0, p0, q0, hargs, rfl, rfl, h0, r0⟩ := trodAll_cons hA
  obtain ⟨v1, vs1, d1, ds1, p1, q1, rfl, rfl, rfl, h1, r1⟩ := trodAll_cons r0
  obtain ⟨v2, vs2, d2, ds2, p2, q2, rfl, rfl, rfl, h2, r2⟩ := trodAll_cons r1
  obtain ⟨v3, vs3, d3, ds3, p3, q3, rfl, rfl, rfl, h3, r3⟩ := trodAll_cons r2
  obtain ⟨rfl, rfl, rfl⟩ := trodAll_nil r3
  obtain rfl : args = #[v0, v1, v2, v3] := by cases args; simp_all
  obtain ⟨rfl, rfl⟩ := trodVars_none hV
  have t0 : ∀ x ∈ p0, x.block < W.heap.size := fun x hx => hW'.lt x (by simp [hx])
  have k0 := hval 0 24 v0 rfl rfl
  have m0 := h0
  obtain ⟨p0', c0', ss0', rfl, p0'n, p0's, p0'r⟩ := open_Picture k0 h0
  have t1 : ∀ x ∈ p1, x.block < W.heap.size := fun x hx => hW'.lt x (by simp [hx])
  have k1 := hval 1 52 v1 rfl rfl
  have m1 := h1
  obtain ⟨x1', y1', rfl, x1'w, y1'w⟩ := open_Spot k1 h1
  have t2 : ∀ x ∈ p2, x.block < W.heap.size := fun x hx => hW'.lt x (by simp [hx])
  have k2 := hval 2 2 v2 rfl rfl
  have m2 := h2
  obtain ⟨x2', rfl, rfl, rfl, x2'w⟩ := open_int Try.underlying2 k2 h2
  have t3 : ∀ x ∈ p3, x.block < W.heap.size := fun x hx => hW'.lt x (by simp [hx])
  have k3 := hval 3 2 v3 rfl rfl
  have m3 := h3
  obtain ⟨x3', rfl, rfl, rfl, x3'w⟩ := open_int Try.underlying2 k3 h3
  refine (walk p0' c0' ss0' x1' y1' x2' x3' W p0'n p0's p0'r x1'w y1'w (bounds_i64 x2'w) (bounds_i64 x3'w)).mono fun e W' ⟨he, hb⟩ => ?_
  subst he
  refine ⟨_, rfl, _, _, _, [], _, [], hW', trodAll_mk1 (shut_bool Try.underlying4 _), (trodAll_cons_mk (Below.trod laidOut (by kernel_rfl) (of_decide_eq_true (by kernel_rfl)) m0 hb t0) (trodAll_cons_mk (Below.trod laidOut (by kernel_rfl) (of_decide_eq_true (by kernel_rfl)) m1 hb t1) (trodAll_cons_mk (Below.trod laidOut (by kernel_rfl) (of_decide_eq_true (by kernel_rfl)) m2 hb t2) (trodAll_cons_mk (Below.trod laidOut (by kernel_rfl) (of_decide_eq_true (by kernel_rfl)) m3 hb t3) trodAll_mk0)))), rfl, hb.frame _, fun h => by cases h⟩

theorem over : Rows.fnExactCropPictureRow.holds Try.pinned (OpenSpec.ofChange Rows.fnExactCropPictureSpec) :=
  OpenClaim.holds_of_wide 12 Try.f12 rfl rfl rfl rfl rfl rfl rfl ⟨rfl, rfl, rfl, rfl, rfl⟩ rfl rfl rfl rfl rfl (by kernel_rfl) Try.func12 (by kernel_rfl)
    (of_decide_eq_true (by kernel_rfl)) (by unfold Func.isWrapper; first | (rw [if_pos (by decide +kernel)]; kernel_rfl) | (rw [if_neg (by decide +kernel)]; exact ⟨rfl, rfl⟩))
    (fun os started H enc _ => lifted os started H enc)

theorem proved : Rows.FnExactCropPictureSaid := over
#print axioms proved
end Go.Proofs.Yteoodnhcghjjeaa.lawCropPicture
