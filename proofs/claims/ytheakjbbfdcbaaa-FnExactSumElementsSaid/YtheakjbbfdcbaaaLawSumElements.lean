/- The law of SumElements: for every input the call returns true, and the inputs read as they did. -/
import Derived.Test.YtheakjbbfdcbaaaElemSumT
import Derived.Test.YtheakjbbfdcbaaaLawCutS
set_option linter.unusedVariables false
set_option linter.unusedSimpArgs false
namespace Go.Proofs.Ytheakjbbfdcbaaa.lawSumElements
open Go.RowKit Go.Proofs.Ytheakjbbfdcbaaa
set_option maxRecDepth 100000 in
set_option maxHeartbeats 4000000 in
theorem walk (p0 : Option Addr) (c0 : Nat) (a : List (Int × Int)) (p1 : Option Addr) (c1 : Nat) (b : List (Int × Int)) (w : World) (hn0' : a.length ≤ maxLen) (hs0' : ∀ s ∈ a, (-9223372036854775808 ≤ s.1 ∧ s.1 ≤ 9223372036854775807) ∧ (-9223372036854775808 ≤ s.2 ∧ s.2 ≤ 9223372036854775807)) (hr0' : Rd w p0 (a.length * 2) (spotAt a)) (hn1' : b.length ≤ maxLen) (hs1' : ∀ s ∈ b, (-9223372036854775808 ≤ s.1 ∧ s.1 ≤ 9223372036854775807) ∧ (-9223372036854775808 ≤ s.2 ∧ s.2 ≤ 9223372036854775807)) (hr1' : Rd w p1 (b.length * 2) (spotAt b)) :
    Calls Try.prog 9 #[.agg #[.slice p0 a.length c0], .agg #[.slice p1 b.length c1]] w fun e w' => e = .returned (.bool true) ∧ Below w.heap.size w w' := by
  rcases Int.lt_or_le (1048576 - (a.length : Int)) 0 with z0 | z0
  · have R0 := ArgRd.of_rd hr0'
    have R1 := ArgRd.of_rd hr1'
    have S := Since.refl w
    replace R0 := R0.bl (bl_alloc w (.cells #[.slice p0 a.length c0] 24))
    replace R1 := R1.bl (bl_alloc w (.cells #[.slice p0 a.length c0] 24))
    replace S := S.bl (bl_alloc w (.cells #[.slice p0 a.length c0] 24))
    have A0 := Blk.new w #[.slice p0 a.length c0] 24
    replace R0 := R0.bl (bl_alloc (w.alloc (.cells #[.slice p0 a.length c0] 24)) (.cells #[.slice p1 b.length c1] 24))
    replace R1 := R1.bl (bl_alloc (w.alloc (.cells #[.slice p0 a.length c0] 24)) (.cells #[.slice p1 b.length c1] 24))
    replace S := S.bl (bl_alloc (w.alloc (.cells #[.slice p0 a.length c0] 24)) (.cells #[.slice p1 b.length c1] 24))
    replace A0 := A0.bl (bl_alloc (w.alloc (.cells #[.slice p0 a.length c0] 24)) (.cells #[.slice p1 b.length c1] 24))
    have A1 := Blk.new (w.alloc (.cells #[.slice p0 a.length c0] 24)) #[.slice p1 b.length c1] 24
    simp only [World.size_alloc] at A1
    go_enter Try.func9, Try.ntmps9
    have kA0_0 := A0.cell 0 rfl
    have kA1_0 := A1.cell 0 rfl
    go_wp2_with fail
    refine (szElement_any _ _ _ _ _ hn0' (by omega) (by omega)).mono ?_
    rw [if_pos (by omega)]
    rintro e w1 ⟨rfl, hb⟩
    replace R0 := R0.bl hb
    replace R1 := R1.bl hb
    replace S := S.bl hb
    replace A0 := A0.bl hb
    replace A1 := A1.bl hb
    have z_1 := hb.size
    (try simp only [World.size_alloc, World.size_setCell, szDrew] at z_1)
    clear hb
    clear kA0_0 kA1_0
    have kA0_0 := A0.cell 0 rfl
    have kA1_0 := A1.cell 0 rfl
    go_wp2
    go_ret
    exact ⟨rfl, S.below⟩
  · have hn0 : a.length ≤ 1048576 := by omega
    have zl0 : 1048576 - (a.length : Int) ≤ 1048576 := by omega
    rcases Int.lt_or_le ((1048576 - (a.length : Int)) - (b.length : Int)) 0 with z1 | z1
    · have R0 := ArgRd.of_rd hr0'
      have R1 := ArgRd.of_rd hr1'
      have S := Since.refl w
      replace R0 := R0.bl (bl_alloc w (.cells #[.slice p0 a.length c0] 24))
      replace R1 := R1.bl (bl_alloc w (.cells #[.slice p0 a.length c0] 24))
      replace S := S.bl (bl_alloc w (.cells #[.slice p0 a.length c0] 24))
      have A0 := Blk.new w #[.slice p0 a.length c0] 24
      replace R0 := R0.bl (bl_alloc (w.alloc (.cells #[.slice p0 a.length c0] 24)) (.cells #[.slice p1 b.length c1] 24))
      replace R1 := R1.bl (bl_alloc (w.alloc (.cells #[.slice p0 a.length c0] 24)) (.cells #[.slice p1 b.length c1] 24))
      replace S := S.bl (bl_alloc (w.alloc (.cells #[.slice p0 a.length c0] 24)) (.cells #[.slice p1 b.length c1] 24))
      replace A0 := A0.bl (bl_alloc (w.alloc (.cells #[.slice p0 a.length c0] 24)) (.cells #[.slice p1 b.length c1] 24))
      have A1 := Blk.new (w.alloc (.cells #[.slice p0 a.length c0] 24)) #[.slice p1 b.length c1] 24
      simp only [World.size_alloc] at A1
      go_enter Try.func9, Try.ntmps9
      have kA0_0 := A0.cell 0 rfl
      have kA1_0 := A1.cell 0 rfl
      go_wp2_with fail
      refine (szElement_any _ _ _ _ _ hn0' (by omega) (by omega)).mono ?_
      rw [if_neg (by omega)]
      rintro e w1 ⟨rfl, hb⟩
      replace R0 := R0.bl hb
      replace R1 := R1.bl hb
      replace S := S.bl hb
      replace A0 := A0.bl hb
      replace A1 := A1.bl hb
      have z_1 := hb.size
      (try simp only [World.size_alloc, World.size_setCell, szDrew] at z_1)
      clear hb
      clear kA0_0 kA1_0
      have kA0_0 := A0.cell 0 rfl
      have kA1_0 := A1.cell 0 rfl
      go_wp2_with fail
      refine (szElement_any _ _ _ _ _ hn1' (by omega) (by omega)).mono ?_
      rw [if_pos (by omega)]
      rintro e w2 ⟨rfl, hb⟩
      replace R0 := R0.bl hb
      replace R1 := R1.bl hb
      replace S := S.bl hb
      replace A0 := A0.bl hb
      replace A1 := A1.bl hb
      have z_2 := hb.size
      (try simp only [World.size_alloc, World.size_setCell, szDrew] at z_2)
      clear hb
      clear kA0_0 kA1_0
      have kA0_0 := A0.cell 0 rfl
      have kA1_0 := A1.cell 0 rfl
      go_wp2
      go_ret
      exact ⟨rfl, S.below⟩
    · have hn1 : b.length ≤ 1048576 := by omega
      have zl1 : (1048576 - (a.length : Int)) - (b.length : Int) ≤ (1048576 - (a.length : Int)) := by omega
      have R0 := ArgRd.of_rd hr0'
      have R1 := ArgRd.of_rd hr1'
      have S := Since.refl w
      replace R0 := R0.bl (bl_alloc w (.cells #[.slice p0 a.length c0] 24))
      replace R1 := R1.bl (bl_alloc w (.cells #[.slice p0 a.length c0] 24))
      replace S := S.bl (bl_alloc w (.cells #[.slice p0 a.length c0] 24))
      have A0 := Blk.new w #[.slice p0 a.length c0] 24
      replace R0 := R0.bl (bl_alloc (w.alloc (.cells #[.slice p0 a.length c0] 24)) (.cells #[.slice p1 b.length c1] 24))
      replace R1 := R1.bl (bl_alloc (w.alloc (.cells #[.slice p0 a.length c0] 24)) (.cells #[.slice p1 b.length c1] 24))
      replace S := S.bl (bl_alloc (w.alloc (.cells #[.slice p0 a.length c0] 24)) (.cells #[.slice p1 b.length c1] 24))
      replace A0 := A0.bl (bl_alloc (w.alloc (.cells #[.slice p0 a.length c0] 24)) (.cells #[.slice p1 b.length c1] 24))
      have A1 := Blk.new (w.alloc (.cells #[.slice p0 a.length c0] 24)) #[.slice p1 b.length c1] 24
      simp only [World.size_alloc] at A1
      go_enter Try.func9, Try.ntmps9
      have kA0_0 := A0.cell 0 rfl
      have kA1_0 := A1.cell 0 rfl
      go_wp2_with fail
      refine (szElement_any _ _ _ _ _ hn0' (by omega) (by omega)).mono ?_
      rw [if_neg (by omega)]
      rintro e w1 ⟨rfl, hb⟩
      replace R0 := R0.bl hb
      replace R1 := R1.bl hb
      replace S := S.bl hb
      replace A0 := A0.bl hb
      replace A1 := A1.bl hb
      have z_1 := hb.size
      (try simp only [World.size_alloc, World.size_setCell, szDrew] at z_1)
      clear hb
      clear kA0_0 kA1_0
      have kA0_0 := A0.cell 0 rfl
      have kA1_0 := A1.cell 0 rfl
      go_wp2_with fail
      refine (szElement_any _ _ _ _ _ hn1' (by omega) (by omega)).mono ?_
      rw [if_neg (by omega)]
      rintro e w2 ⟨rfl, hb⟩
      replace R0 := R0.bl hb
      replace R1 := R1.bl hb
      replace S := S.bl hb
      replace A0 := A0.bl hb
      replace A1 := A1.bl hb
      have z_2 := hb.size
      (try simp only [World.size_alloc, World.size_setCell, szDrew] at z_2)
      clear hb
      clear kA0_0 kA1_0
      have kA0_0 := A0.cell 0 rfl
      have kA1_0 := A1.cell 0 rfl
      clear kA0_0 kA1_0
      have y_101 := bl_drew w2
      go_upto_region 8 with (fail)
      go_cut [6, 7] (fun s6 s7 wx => ∃ nb p d, s6 = .pointer (some ⟨nb, 0, none⟩) ∧ s7 = (.bool (sumOk a b)) ∧ CutSpots w2 nb p d (sumR a b) 28 wx)
      case first =>
        have R0_o := R0
        replace R0 := R0.bl y_101
        have R1_o := R1
        replace R1 := R1.bl y_101
        have S_o := S
        replace S := S.bl y_101
        have A0_o := A0
        replace A0 := A0.bl y_101
        have A1_o := A1
        replace A1 := A1.bl y_101
        have Z := (Since.refl w2).bl y_101
        have kA0_0 := A0.cell 0 rfl
        have kA1_0 := A1.cell 0 rfl
        have q_A0 := A0.lt
        have q_A1 := A1.lt
        (try simp only [World.size_alloc, World.size_setCell, szDrew] at q_A0 q_A1)
        go_region_held3 (fun w' => w'.cell? ⟨w.heap.size, 0, none⟩ = some (.slice p0 a.length c0) ∧ w'.cell? ⟨w.heap.size + 1, 0, none⟩ = some (.slice p1 b.length c1))
          (first | exact ⟨kA0_0, kA1_0⟩ | exact ⟨Blk.cell (b := w.heap.size) (cs := #[.slice p0 a.length c0]) (t := 24) (by (repeat (first | assumption | exact Blk.new _ _ _ | exact Since.refl _ | refine ArgRd.bl ?_ (bl_alloc _ _) | refine ArgRd.bl ?_ (bl_drew _) | refine ArgRd.bl ?_ (by assumption) | refine Copy.bl ?_ (bl_alloc _ _) | refine Copy.bl ?_ (bl_drew _) | refine Copy.bl ?_ (by assumption) | refine OwnSpots.bl ?_ (bl_alloc _ _) | refine OwnSpots.bl ?_ (bl_drew _) | refine OwnSpots.bl ?_ (by assumption) | refine Blk.bl ?_ (bl_alloc _ _) | refine Blk.bl ?_ (bl_drew _) | refine Blk.bl ?_ (by assumption) | refine Since.bl ?_ (bl_alloc _ _) | refine Since.bl ?_ (bl_drew _) | refine Since.bl ?_ (by assumption) | refine Blk.other ?_ (by (try dsimp only); (try simp only [World.size_alloc, World.size_setCell, szDrew]); omega) _))) 0 rfl, Blk.cell (b := w.heap.size + 1) (cs := #[.slice p1 b.length c1]) (t := 24) (by (repeat (first | assumption | exact Blk.new _ _ _ | exact Since.refl _ | refine ArgRd.bl ?_ (bl_alloc _ _) | refine ArgRd.bl ?_ (bl_drew _) | refine ArgRd.bl ?_ (by assumption) | refine Copy.bl ?_ (bl_alloc _ _) | refine Copy.bl ?_ (bl_drew _) | refine Copy.bl ?_ (by assumption) | refine OwnSpots.bl ?_ (bl_alloc _ _) | refine OwnSpots.bl ?_ (bl_drew _) | refine OwnSpots.bl ?_ (by assumption) | refine Blk.bl ?_ (bl_alloc _ _) | refine Blk.bl ?_ (bl_drew _) | refine Blk.bl ?_ (by assumption) | refine Since.bl ?_ (bl_alloc _ _) | refine Since.bl ?_ (bl_drew _) | refine Since.bl ?_ (by assumption) | refine Blk.other ?_ (by (try dsimp only); (try simp only [World.size_alloc, World.size_setCell, szDrew]); omega) _))) 0 rfl⟩)
          ((first | (go_at_call 12; (with_reducible refine (toElement_x (B := w.heap.size) ?_ hn0).mono ?_); (focus ((repeat (first | assumption | exact Blk.new _ _ _ | exact Since.refl _ | refine ArgRd.bl ?_ (bl_alloc _ _) | refine ArgRd.bl ?_ (bl_drew _) | refine ArgRd.bl ?_ (by assumption) | refine Copy.bl ?_ (bl_alloc _ _) | refine Copy.bl ?_ (bl_drew _) | refine Copy.bl ?_ (by assumption) | refine OwnSpots.bl ?_ (bl_alloc _ _) | refine OwnSpots.bl ?_ (bl_drew _) | refine OwnSpots.bl ?_ (by assumption) | refine Blk.bl ?_ (bl_alloc _ _) | refine Blk.bl ?_ (bl_drew _) | refine Blk.bl ?_ (by assumption) | refine Since.bl ?_ (bl_alloc _ _) | refine Since.bl ?_ (bl_drew _) | refine Since.bl ?_ (by assumption) | refine Blk.other ?_ (by (try dsimp only); (try simp only [World.size_alloc, World.size_setCell, szDrew]); omega) _)); done)); rintro e x1 ⟨gY1, rfl, Y1, hgY1, hc_1⟩; have s_hc_1 := hc_1.size; (try simp only [World.size_alloc, World.size_setCell, szDrew] at s_hc_1)) | (go_at_call 12; (with_reducible refine (toElement_x (B := w.heap.size) ?_ hn1).mono ?_); (focus ((repeat (first | assumption | exact Blk.new _ _ _ | exact Since.refl _ | refine ArgRd.bl ?_ (bl_alloc _ _) | refine ArgRd.bl ?_ (bl_drew _) | refine ArgRd.bl ?_ (by assumption) | refine Copy.bl ?_ (bl_alloc _ _) | refine Copy.bl ?_ (bl_drew _) | refine Copy.bl ?_ (by assumption) | refine OwnSpots.bl ?_ (bl_alloc _ _) | refine OwnSpots.bl ?_ (bl_drew _) | refine OwnSpots.bl ?_ (by assumption) | refine Blk.bl ?_ (bl_alloc _ _) | refine Blk.bl ?_ (bl_drew _) | refine Blk.bl ?_ (by assumption) | refine Since.bl ?_ (bl_alloc _ _) | refine Since.bl ?_ (bl_drew _) | refine Since.bl ?_ (by assumption) | refine Blk.other ?_ (by (try dsimp only); (try simp only [World.size_alloc, World.size_setCell, szDrew]); omega) _)); done)); rintro e x2 ⟨gY2, rfl, Y2, hgY2, hc_2⟩; have s_hc_2 := hc_2.size; (try simp only [World.size_alloc, World.size_setCell, szDrew] at s_hc_2)) | (go_at_call 31; (with_reducible refine (sSum_any _ _ a _ _ b _ hn0 (Copy.rd (g := gY1) (t := 45) ?_) hn1 (Copy.rd (g := gY2) (t := 45) ?_)).mono ?_); (focus ((repeat (first | assumption | exact Blk.new _ _ _ | exact Since.refl _ | refine ArgRd.bl ?_ (bl_alloc _ _) | refine ArgRd.bl ?_ (bl_drew _) | refine ArgRd.bl ?_ (by assumption) | refine Copy.bl ?_ (bl_alloc _ _) | refine Copy.bl ?_ (bl_drew _) | refine Copy.bl ?_ (by assumption) | refine OwnSpots.bl ?_ (bl_alloc _ _) | refine OwnSpots.bl ?_ (bl_drew _) | refine OwnSpots.bl ?_ (by assumption) | refine Blk.bl ?_ (bl_alloc _ _) | refine Blk.bl ?_ (bl_drew _) | refine Blk.bl ?_ (by assumption) | refine Since.bl ?_ (bl_alloc _ _) | refine Since.bl ?_ (bl_drew _) | refine Since.bl ?_ (by assumption) | refine Blk.other ?_ (by (try dsimp only); (try simp only [World.size_alloc, World.size_setCell, szDrew]); omega) _)); done)); (focus ((repeat (first | assumption | exact Blk.new _ _ _ | exact Since.refl _ | refine ArgRd.bl ?_ (bl_alloc _ _) | refine ArgRd.bl ?_ (bl_drew _) | refine ArgRd.bl ?_ (by assumption) | refine Copy.bl ?_ (bl_alloc _ _) | refine Copy.bl ?_ (bl_drew _) | refine Copy.bl ?_ (by assumption) | refine OwnSpots.bl ?_ (bl_alloc _ _) | refine OwnSpots.bl ?_ (bl_drew _) | refine OwnSpots.bl ?_ (by assumption) | refine Blk.bl ?_ (bl_alloc _ _) | refine Blk.bl ?_ (bl_drew _) | refine Blk.bl ?_ (by assumption) | refine Since.bl ?_ (bl_alloc _ _) | refine Since.bl ?_ (bl_drew _) | refine Since.bl ?_ (by assumption) | refine Blk.other ?_ (by (try dsimp only); (try simp only [World.size_alloc, World.size_setCell, szDrew]); omega) _)); done)); rintro e x3 ⟨vW0, rfl, OW0, hc_3⟩; obtain ⟨pW0, dW0, rfl⟩ := OW0.form; have bW0 := OW0.ge; have s_hc_3 := hc_3.size; (try simp only [World.size_alloc, World.size_setCell, szDrew] at s_hc_3); replace OW0 : OwnSpots w2.heap.size _ _ _ := OW0.mono (by (try simp only [World.size_alloc, World.size_setCell, szDrew] at *); omega); (first | have NB := Blk.bl (Blk.new _ _ _) hc_3 | have NB := Blk.bl (Blk.bl (Blk.new _ _ _) hc_2) hc_3 | have NB := Blk.bl (Blk.bl (Blk.bl (Blk.bl (Blk.new _ _ _) (bl_drew _)) hc_1) hc_2) hc_3 | skip); (try simp only [World.size_alloc, World.size_setCell, szDrew] at NB); (try (have NB_c := NB.cell 0 rfl; have NB_g := NB.frozen 0)))))
        all_goals
          (try simp only [World.size_alloc, World.size_setCell, szDrew] at s_hc_1 s_hc_2 s_hc_3)
          go_wp2_with fail
          go_meet
          first
          | refine ⟨_, _, _, rfl, rfl, cut_spots (lo := w2.heap.size) (z := .slice none 0 0) ?_ ?_ (Nat.le_refl _) ?_ ?_ ?_⟩
            · (repeat (first | assumption | exact Blk.new _ _ _ | exact Since.refl _ | refine ArgRd.bl ?_ (bl_alloc _ _) | refine ArgRd.bl ?_ (bl_drew _) | refine ArgRd.bl ?_ (by assumption) | refine Copy.bl ?_ (bl_alloc _ _) | refine Copy.bl ?_ (bl_drew _) | refine Copy.bl ?_ (by assumption) | refine OwnSpots.bl ?_ (bl_alloc _ _) | refine OwnSpots.bl ?_ (bl_drew _) | refine OwnSpots.bl ?_ (by assumption) | refine Blk.bl ?_ (bl_alloc _ _) | refine Blk.bl ?_ (bl_drew _) | refine Blk.bl ?_ (by assumption) | refine Since.bl ?_ (bl_alloc _ _) | refine Since.bl ?_ (bl_drew _) | refine Since.bl ?_ (by assumption) | refine Blk.other ?_ (by (try dsimp only); (try simp only [World.size_alloc, World.size_setCell, szDrew]); omega) _))
            · (repeat (first | assumption | exact Blk.new _ _ _ | exact Since.refl _ | refine ArgRd.bl ?_ (bl_alloc _ _) | refine ArgRd.bl ?_ (bl_drew _) | refine ArgRd.bl ?_ (by assumption) | refine Copy.bl ?_ (bl_alloc _ _) | refine Copy.bl ?_ (bl_drew _) | refine Copy.bl ?_ (by assumption) | refine OwnSpots.bl ?_ (bl_alloc _ _) | refine OwnSpots.bl ?_ (bl_drew _) | refine OwnSpots.bl ?_ (by assumption) | refine Blk.bl ?_ (bl_alloc _ _) | refine Blk.bl ?_ (bl_drew _) | refine Blk.bl ?_ (by assumption) | refine Since.bl ?_ (bl_alloc _ _) | refine Since.bl ?_ (bl_drew _) | refine Since.bl ?_ (by assumption) | refine Blk.other ?_ (by (try dsimp only); (try simp only [World.size_alloc, World.size_setCell, szDrew]); omega) _))
            · refine Since.below ?_
              (repeat (first | assumption | exact Blk.new _ _ _ | exact Since.refl _ | refine ArgRd.bl ?_ (bl_alloc _ _) | refine ArgRd.bl ?_ (bl_drew _) | refine ArgRd.bl ?_ (by assumption) | refine Copy.bl ?_ (bl_alloc _ _) | refine Copy.bl ?_ (bl_drew _) | refine Copy.bl ?_ (by assumption) | refine OwnSpots.bl ?_ (bl_alloc _ _) | refine OwnSpots.bl ?_ (bl_drew _) | refine OwnSpots.bl ?_ (by assumption) | refine Blk.bl ?_ (bl_alloc _ _) | refine Blk.bl ?_ (bl_drew _) | refine Blk.bl ?_ (by assumption) | refine Since.bl ?_ (bl_alloc _ _) | refine Since.bl ?_ (bl_drew _) | refine Since.bl ?_ (by assumption) | refine Blk.other ?_ (by (try dsimp only); (try simp only [World.size_alloc, World.size_setCell, szDrew]); omega) _))
            · (try simp only [World.size_alloc, World.size_setCell, szDrew])
              omega
            · intro k hk e
              have := bW0 k hk
              (try simp only [World.size_alloc, World.size_setCell, szDrew] at this e)
              omega
          | refine ⟨_, _, _, rfl, rfl, cut_spots2 (lo := w2.heap.size) ?_ (Nat.le_refl _) ?_⟩
            · (repeat (first | assumption | exact Blk.new _ _ _ | exact Since.refl _ | refine ArgRd.bl ?_ (bl_alloc _ _) | refine ArgRd.bl ?_ (bl_drew _) | refine ArgRd.bl ?_ (by assumption) | refine Copy.bl ?_ (bl_alloc _ _) | refine Copy.bl ?_ (bl_drew _) | refine Copy.bl ?_ (by assumption) | refine OwnSpots.bl ?_ (bl_alloc _ _) | refine OwnSpots.bl ?_ (bl_drew _) | refine OwnSpots.bl ?_ (by assumption) | refine Blk.bl ?_ (bl_alloc _ _) | refine Blk.bl ?_ (bl_drew _) | refine Blk.bl ?_ (by assumption) | refine Since.bl ?_ (bl_alloc _ _) | refine Since.bl ?_ (bl_drew _) | refine Since.bl ?_ (by assumption) | refine Blk.other ?_ (by (try dsimp only); (try simp only [World.size_alloc, World.size_setCell, szDrew]); omega) _))
            · refine Since.below ?_
              (repeat (first | assumption | exact Blk.new _ _ _ | exact Since.refl _ | refine ArgRd.bl ?_ (bl_alloc _ _) | refine ArgRd.bl ?_ (bl_drew _) | refine ArgRd.bl ?_ (by assumption) | refine Copy.bl ?_ (bl_alloc _ _) | refine Copy.bl ?_ (bl_drew _) | refine Copy.bl ?_ (by assumption) | refine OwnSpots.bl ?_ (bl_alloc _ _) | refine OwnSpots.bl ?_ (bl_drew _) | refine OwnSpots.bl ?_ (by assumption) | refine Blk.bl ?_ (bl_alloc _ _) | refine Blk.bl ?_ (bl_drew _) | refine Blk.bl ?_ (by assumption) | refine Since.bl ?_ (bl_alloc _ _) | refine Since.bl ?_ (bl_drew _) | refine Since.bl ?_ (by assumption) | refine Blk.other ?_ (by (try dsimp only); (try simp only [World.size_alloc, World.size_setCell, szDrew]); omega) _))
      obtain ⟨nb1, pW0, dW0, rfl, rfl, hcut1⟩ := hcut
      have ew1 : ∃ w', w' = wc := ⟨wc, rfl⟩
      obtain ⟨w3, ew1⟩ := ew1
      subst ew1
      have hbz := hcut1.below
      replace R0 := R0.bl hbz
      replace R1 := R1.bl hbz
      replace S := S.bl hbz
      replace A0 := A0.bl hbz
      replace A1 := A1.bl hbz
      have z_3 := hbz.size
      (try simp only [World.size_alloc, World.size_setCell, szDrew] at z_3)
      clear hbz y_101
      have B1 := hcut1.blk
      have OW0 := hcut1.own
      have bW0 := OW0.ge
      have ge1 := hcut1.ge
      (try simp only [World.size_alloc, World.size_setCell, szDrew] at ge1 bW0)
      have lt1 := B1.lt
      have ne1 := hcut1.ne
      clear hcut1
      have kA0_0 := A0.cell 0 rfl
      have kA1_0 := A1.cell 0 rfl
      have kB1_0 := B1.cell 0 rfl
      go_wp2_with fail
      refine (toElement_x R0 hn0).mono ?_
      rintro e w4 ⟨gY3, rfl, Y3, hgY3, hb⟩
      replace R0 := R0.bl hb
      replace R1 := R1.bl hb
      replace S := S.bl hb
      replace A0 := A0.bl hb
      replace A1 := A1.bl hb
      replace OW0 := OW0.bl hb
      replace B1 := B1.bl hb
      have z_4 := hb.size
      (try simp only [World.size_alloc, World.size_setCell, szDrew] at z_4)
      have lY3 := Y3.lt
      (try simp only [World.size_alloc, World.size_setCell, szDrew] at hgY3)
      clear hb
      clear kA0_0 kA1_0 kB1_0
      have kA0_0 := A0.cell 0 rfl
      have kA1_0 := A1.cell 0 rfl
      have kB1_0 := B1.cell 0 rfl
      replace R0 := R0.bl (bl_alloc w4 (.cells #[.slice (some ⟨gY3, 0, none⟩) a.length a.length] 28))
      replace R1 := R1.bl (bl_alloc w4 (.cells #[.slice (some ⟨gY3, 0, none⟩) a.length a.length] 28))
      replace S := S.bl (bl_alloc w4 (.cells #[.slice (some ⟨gY3, 0, none⟩) a.length a.length] 28))
      replace A0 := A0.bl (bl_alloc w4 (.cells #[.slice (some ⟨gY3, 0, none⟩) a.length a.length] 28))
      replace A1 := A1.bl (bl_alloc w4 (.cells #[.slice (some ⟨gY3, 0, none⟩) a.length a.length] 28))
      replace OW0 := OW0.bl (bl_alloc w4 (.cells #[.slice (some ⟨gY3, 0, none⟩) a.length a.length] 28))
      replace B1 := B1.bl (bl_alloc w4 (.cells #[.slice (some ⟨gY3, 0, none⟩) a.length a.length] 28))
      replace Y3 := Y3.bl (bl_alloc w4 (.cells #[.slice (some ⟨gY3, 0, none⟩) a.length a.length] 28))
      have B2 := Blk.new w4 #[.slice (some ⟨gY3, 0, none⟩) a.length a.length] 28
      (try simp only [World.size_alloc] at B2)
      clear kA0_0 kA1_0 kB1_0
      have kA0_0 := A0.cell 0 rfl
      have kA1_0 := A1.cell 0 rfl
      have kB1_0 := B1.cell 0 rfl
      have kB2_0 := B2.cell 0 rfl
      go_wp2_with fail
      refine (toElement_x R1 hn1).mono ?_
      rintro e w5 ⟨gY4, rfl, Y4, hgY4, hb⟩
      replace R0 := R0.bl hb
      replace R1 := R1.bl hb
      replace S := S.bl hb
      replace A0 := A0.bl hb
      replace A1 := A1.bl hb
      replace OW0 := OW0.bl hb
      replace B1 := B1.bl hb
      replace Y3 := Y3.bl hb
      replace B2 := B2.bl hb
      have z_5 := hb.size
      (try simp only [World.size_alloc, World.size_setCell, szDrew] at z_5)
      have lY4 := Y4.lt
      (try simp only [World.size_alloc, World.size_setCell, szDrew] at hgY4)
      clear hb
      clear kA0_0 kA1_0 kB1_0 kB2_0
      have kA0_0 := A0.cell 0 rfl
      have kA1_0 := A1.cell 0 rfl
      have kB1_0 := B1.cell 0 rfl
      have kB2_0 := B2.cell 0 rfl
      replace R0 := R0.bl (bl_alloc w5 (.cells #[.slice (some ⟨gY4, 0, none⟩) b.length b.length] 28))
      replace R1 := R1.bl (bl_alloc w5 (.cells #[.slice (some ⟨gY4, 0, none⟩) b.length b.length] 28))
      replace S := S.bl (bl_alloc w5 (.cells #[.slice (some ⟨gY4, 0, none⟩) b.length b.length] 28))
      replace A0 := A0.bl (bl_alloc w5 (.cells #[.slice (some ⟨gY4, 0, none⟩) b.length b.length] 28))
      replace A1 := A1.bl (bl_alloc w5 (.cells #[.slice (some ⟨gY4, 0, none⟩) b.length b.length] 28))
      replace OW0 := OW0.bl (bl_alloc w5 (.cells #[.slice (some ⟨gY4, 0, none⟩) b.length b.length] 28))
      replace B1 := B1.bl (bl_alloc w5 (.cells #[.slice (some ⟨gY4, 0, none⟩) b.length b.length] 28))
      replace Y3 := Y3.bl (bl_alloc w5 (.cells #[.slice (some ⟨gY4, 0, none⟩) b.length b.length] 28))
      replace B2 := B2.bl (bl_alloc w5 (.cells #[.slice (some ⟨gY4, 0, none⟩) b.length b.length] 28))
      replace Y4 := Y4.bl (bl_alloc w5 (.cells #[.slice (some ⟨gY4, 0, none⟩) b.length b.length] 28))
      have B3 := Blk.new w5 #[.slice (some ⟨gY4, 0, none⟩) b.length b.length] 28
      (try simp only [World.size_alloc] at B3)
      clear kA0_0 kA1_0 kB1_0 kB2_0
      have kA0_0 := A0.cell 0 rfl
      have kA1_0 := A1.cell 0 rfl
      have kB1_0 := B1.cell 0 rfl
      have kB2_0 := B2.cell 0 rfl
      have kB3_0 := B3.cell 0 rfl
      go_wp2_with fail
      refine (sum_any _ _ a _ _ b _ hn0 Y3.rd hn1 Y4.rd).mono ?_
      rintro e w6 ⟨vG0, rfl, OG0, hb⟩
      replace R0 := R0.bl hb
      replace R1 := R1.bl hb
      replace S := S.bl hb
      replace A0 := A0.bl hb
      replace A1 := A1.bl hb
      replace OW0 := OW0.bl hb
      replace B1 := B1.bl hb
      replace Y3 := Y3.bl hb
      replace B2 := B2.bl hb
      replace Y4 := Y4.bl hb
      replace B3 := B3.bl hb
      have z_6 := hb.size
      (try simp only [World.size_alloc, World.size_setCell, szDrew] at z_6)
      obtain ⟨pG0, dG0, rfl⟩ := OG0.form
      have bG0 := OG0.ge
      (try simp only [World.size_alloc, World.size_setCell, szDrew] at bG0)
      clear hb
      clear kA0_0 kA1_0 kB1_0 kB2_0 kB3_0
      have kA0_0 := A0.cell 0 rfl
      have kA1_0 := A1.cell 0 rfl
      have kB1_0 := B1.cell 0 rfl
      have kB2_0 := B2.cell 0 rfl
      have kB3_0 := B3.cell 0 rfl
      replace R0 := R0.bl (bl_alloc w6 (.cells #[.slice pG0 (sumR a b).length dG0] 28))
      replace R1 := R1.bl (bl_alloc w6 (.cells #[.slice pG0 (sumR a b).length dG0] 28))
      replace S := S.bl (bl_alloc w6 (.cells #[.slice pG0 (sumR a b).length dG0] 28))
      replace A0 := A0.bl (bl_alloc w6 (.cells #[.slice pG0 (sumR a b).length dG0] 28))
      replace A1 := A1.bl (bl_alloc w6 (.cells #[.slice pG0 (sumR a b).length dG0] 28))
      replace OW0 := OW0.bl (bl_alloc w6 (.cells #[.slice pG0 (sumR a b).length dG0] 28))
      replace B1 := B1.bl (bl_alloc w6 (.cells #[.slice pG0 (sumR a b).length dG0] 28))
      replace Y3 := Y3.bl (bl_alloc w6 (.cells #[.slice pG0 (sumR a b).length dG0] 28))
      replace B2 := B2.bl (bl_alloc w6 (.cells #[.slice pG0 (sumR a b).length dG0] 28))
      replace Y4 := Y4.bl (bl_alloc w6 (.cells #[.slice pG0 (sumR a b).length dG0] 28))
      replace B3 := B3.bl (bl_alloc w6 (.cells #[.slice pG0 (sumR a b).length dG0] 28))
      replace OG0 := OG0.bl (bl_alloc w6 (.cells #[.slice pG0 (sumR a b).length dG0] 28))
      have B4 := Blk.new w6 #[.slice pG0 (sumR a b).length dG0] 28
      (try simp only [World.size_alloc] at B4)
      clear kA0_0 kA1_0 kB1_0 kB2_0 kB3_0
      have kA0_0 := A0.cell 0 rfl
      have kA1_0 := A1.cell 0 rfl
      have kB1_0 := B1.cell 0 rfl
      have kB2_0 := B2.cell 0 rfl
      have kB3_0 := B3.cell 0 rfl
      have kB4_0 := B4.cell 0 rfl
      go_wp2_with fail
      refine (eqElement_same _ _ _ _ (sumR a b) _ (sumR_len a b) OG0.rd OW0.rd).mono ?_
      rintro e w7 ⟨rfl, hb⟩
      replace R0 := R0.bl hb
      replace R1 := R1.bl hb
      replace S := S.bl hb
      replace A0 := A0.bl hb
      replace A1 := A1.bl hb
      replace OW0 := OW0.bl hb
      replace B1 := B1.bl hb
      replace Y3 := Y3.bl hb
      replace B2 := B2.bl hb
      replace Y4 := Y4.bl hb
      replace B3 := B3.bl hb
      replace OG0 := OG0.bl hb
      replace B4 := B4.bl hb
      have z_7 := hb.size
      (try simp only [World.size_alloc, World.size_setCell, szDrew] at z_7)
      clear hb
      clear kA0_0 kA1_0 kB1_0 kB2_0 kB3_0 kB4_0
      have kA0_0 := A0.cell 0 rfl
      have kA1_0 := A1.cell 0 rfl
      have kB1_0 := B1.cell 0 rfl
      have kB2_0 := B2.cell 0 rfl
      have kB3_0 := B3.cell 0 rfl
      have kB4_0 := B4.cell 0 rfl
      have y_0 := bl_drew w7
      replace R0 := R0.bl y_0
      replace R1 := R1.bl y_0
      replace S := S.bl y_0
      replace A0 := A0.bl y_0
      replace A1 := A1.bl y_0
      replace OW0 := OW0.bl y_0
      replace B1 := B1.bl y_0
      replace Y3 := Y3.bl y_0
      replace B2 := B2.bl y_0
      replace Y4 := Y4.bl y_0
      replace B3 := B3.bl y_0
      replace OG0 := OG0.bl y_0
      replace B4 := B4.bl y_0
      clear y_0
      clear kA0_0 kA1_0 kB1_0 kB2_0 kB3_0 kB4_0
      have kB2_0 := B2.cell 0 rfl
      have kA0_0 := A0.cell 0 rfl
      go_wp2_with fail
      go_region_held3 (fun w' => w'.cell? ⟨w4.heap.size, 0, none⟩ = some (.slice (some ⟨gY3, 0, none⟩) a.length a.length) ∧ w'.cell? ⟨w.heap.size, 0, none⟩ = some (.slice p0 a.length c0))
        (first | exact ⟨B2.cell 0 rfl, A0.cell 0 rfl⟩ | exact ⟨(B2.bl hb_8).cell 0 rfl, (A0.bl hb_8).cell 0 rfl⟩ | exact ⟨((B2.bl hb_8).bl hb_9).cell 0 rfl, ((A0.bl hb_8).bl hb_9).cell 0 rfl⟩)
        ((first | (go_at_call 12; with_reducible (refine (toElement_x R0 hn0).mono ?_); rintro e w8 ⟨gY5, rfl, Y5, hgY5, hb_8⟩; have lY5 := Y5.lt) | (go_at_call 14; with_reducible (refine (eqElement_same _ _ _ _ a _ hn0 (Y3.bl hb_8).rd Y5.rd).mono ?_); rintro e w9 ⟨rfl, hb_9⟩)))
      replace R0 := R0.bl hb_8
      replace R1 := R1.bl hb_8
      replace S := S.bl hb_8
      replace A0 := A0.bl hb_8
      replace A1 := A1.bl hb_8
      replace OW0 := OW0.bl hb_8
      replace B1 := B1.bl hb_8
      replace Y3 := Y3.bl hb_8
      replace B2 := B2.bl hb_8
      replace Y4 := Y4.bl hb_8
      replace B3 := B3.bl hb_8
      replace OG0 := OG0.bl hb_8
      replace B4 := B4.bl hb_8
      have z_8 := hb_8.size
      (try simp only [World.size_alloc, World.size_setCell, szDrew] at z_8)
      replace R0 := R0.bl hb_9
      replace R1 := R1.bl hb_9
      replace S := S.bl hb_9
      replace A0 := A0.bl hb_9
      replace A1 := A1.bl hb_9
      replace OW0 := OW0.bl hb_9
      replace B1 := B1.bl hb_9
      replace Y3 := Y3.bl hb_9
      replace B2 := B2.bl hb_9
      replace Y4 := Y4.bl hb_9
      replace B3 := B3.bl hb_9
      replace OG0 := OG0.bl hb_9
      replace B4 := B4.bl hb_9
      replace Y5 := Y5.bl hb_9
      have z_9 := hb_9.size
      (try simp only [World.size_alloc, World.size_setCell, szDrew] at z_9)
      (try simp only [World.size_alloc, World.size_setCell, szDrew] at hgY5)
      clear hb_8 hb_9
      clear kB2_0 kA0_0
      have kA0_0 := A0.cell 0 rfl
      have kA1_0 := A1.cell 0 rfl
      have kB1_0 := B1.cell 0 rfl
      have kB2_0 := B2.cell 0 rfl
      have kB3_0 := B3.cell 0 rfl
      have kB4_0 := B4.cell 0 rfl
      have y_0 := bl_drew w9
      replace R0 := R0.bl y_0
      replace R1 := R1.bl y_0
      replace S := S.bl y_0
      replace A0 := A0.bl y_0
      replace A1 := A1.bl y_0
      replace OW0 := OW0.bl y_0
      replace B1 := B1.bl y_0
      replace Y3 := Y3.bl y_0
      replace B2 := B2.bl y_0
      replace Y4 := Y4.bl y_0
      replace B3 := B3.bl y_0
      replace OG0 := OG0.bl y_0
      replace B4 := B4.bl y_0
      replace Y5 := Y5.bl y_0
      clear y_0
      clear kA0_0 kA1_0 kB1_0 kB2_0 kB3_0 kB4_0
      have kB3_0 := B3.cell 0 rfl
      have kA1_0 := A1.cell 0 rfl
      go_wp2_with fail
      go_region_held3 (fun w' => w'.cell? ⟨w5.heap.size, 0, none⟩ = some (.slice (some ⟨gY4, 0, none⟩) b.length b.length) ∧ w'.cell? ⟨w.heap.size + 1, 0, none⟩ = some (.slice p1 b.length c1))
        (first | exact ⟨B3.cell 0 rfl, A1.cell 0 rfl⟩ | exact ⟨(B3.bl hb_10).cell 0 rfl, (A1.bl hb_10).cell 0 rfl⟩ | exact ⟨((B3.bl hb_10).bl hb_11).cell 0 rfl, ((A1.bl hb_10).bl hb_11).cell 0 rfl⟩)
        ((first | (go_at_call 12; with_reducible (refine (toElement_x R1 hn1).mono ?_); rintro e w10 ⟨gY6, rfl, Y6, hgY6, hb_10⟩; have lY6 := Y6.lt) | (go_at_call 14; with_reducible (refine (eqElement_same _ _ _ _ b _ hn1 (Y4.bl hb_10).rd Y6.rd).mono ?_); rintro e w11 ⟨rfl, hb_11⟩)))
      replace R0 := R0.bl hb_10
      replace R1 := R1.bl hb_10
      replace S := S.bl hb_10
      replace A0 := A0.bl hb_10
      replace A1 := A1.bl hb_10
      replace OW0 := OW0.bl hb_10
      replace B1 := B1.bl hb_10
      replace Y3 := Y3.bl hb_10
      replace B2 := B2.bl hb_10
      replace Y4 := Y4.bl hb_10
      replace B3 := B3.bl hb_10
      replace OG0 := OG0.bl hb_10
      replace B4 := B4.bl hb_10
      replace Y5 := Y5.bl hb_10
      have z_10 := hb_10.size
      (try simp only [World.size_alloc, World.size_setCell, szDrew] at z_10)
      replace R0 := R0.bl hb_11
      replace R1 := R1.bl hb_11
      replace S := S.bl hb_11
      replace A0 := A0.bl hb_11
      replace A1 := A1.bl hb_11
      replace OW0 := OW0.bl hb_11
      replace B1 := B1.bl hb_11
      replace Y3 := Y3.bl hb_11
      replace B2 := B2.bl hb_11
      replace Y4 := Y4.bl hb_11
      replace B3 := B3.bl hb_11
      replace OG0 := OG0.bl hb_11
      replace B4 := B4.bl hb_11
      replace Y5 := Y5.bl hb_11
      replace Y6 := Y6.bl hb_11
      have z_11 := hb_11.size
      (try simp only [World.size_alloc, World.size_setCell, szDrew] at z_11)
      (try simp only [World.size_alloc, World.size_setCell, szDrew] at hgY6)
      clear hb_10 hb_11
      clear kB3_0 kA1_0
      have kA0_0 := A0.cell 0 rfl
      have kA1_0 := A1.cell 0 rfl
      have kB1_0 := B1.cell 0 rfl
      have kB2_0 := B2.cell 0 rfl
      have kB3_0 := B3.cell 0 rfl
      have kB4_0 := B4.cell 0 rfl
      go_wp2_with fail
      refine (markElement_x _ Y3 hn0 _ (by omega) (by omega)).mono ?_
      rintro e w12 ⟨rfl, hb⟩
      replace R0 := R0.grown hb (fun g e => by cases e; omega)
      replace R1 := R1.grown hb (fun g e => by cases e; omega)
      replace S := S.grow hb (fun g e => by cases e; omega)
      replace A0 := A0.grow hb (fun g e => by cases e; omega)
      replace A1 := A1.grow hb (fun g e => by cases e; omega)
      replace OW0 := OW0.grow hb (fun k g hk e => by cases e; have := bW0 k hk; omega)
      replace B1 := B1.grow hb (fun g e => by cases e; omega)
      replace B2 := B2.grow hb (fun g e => by cases e; omega)
      replace Y4 := Y4.grow hb (fun g e => by cases e; omega)
      replace B3 := B3.grow hb (fun g e => by cases e; omega)
      replace OG0 := OG0.grow hb (fun k g hk e => by cases e; have := bG0 k hk; omega)
      replace B4 := B4.grow hb (fun g e => by cases e; omega)
      replace Y5 := Y5.grow hb (fun g e => by cases e; omega)
      replace Y6 := Y6.grow hb (fun g e => by cases e; omega)
      have z_12 := hb.size
      (try simp only [World.size_alloc, World.size_setCell, szDrew] at z_12)
      clear hb
      clear kA0_0 kA1_0 kB1_0 kB2_0 kB3_0 kB4_0
      have kA0_0 := A0.cell 0 rfl
      have kA1_0 := A1.cell 0 rfl
      have kB1_0 := B1.cell 0 rfl
      have kB2_0 := B2.cell 0 rfl
      have kB3_0 := B3.cell 0 rfl
      have kB4_0 := B4.cell 0 rfl
      go_wp2_with fail
      refine (markElement_x _ Y4 hn1 _ (by omega) (by omega)).mono ?_
      rintro e w13 ⟨rfl, hb⟩
      replace R0 := R0.grown hb (fun g e => by cases e; omega)
      replace R1 := R1.grown hb (fun g e => by cases e; omega)
      replace S := S.grow hb (fun g e => by cases e; omega)
      replace A0 := A0.grow hb (fun g e => by cases e; omega)
      replace A1 := A1.grow hb (fun g e => by cases e; omega)
      replace OW0 := OW0.grow hb (fun k g hk e => by cases e; have := bW0 k hk; omega)
      replace B1 := B1.grow hb (fun g e => by cases e; omega)
      replace B2 := B2.grow hb (fun g e => by cases e; omega)
      replace B3 := B3.grow hb (fun g e => by cases e; omega)
      replace OG0 := OG0.grow hb (fun k g hk e => by cases e; have := bG0 k hk; omega)
      replace B4 := B4.grow hb (fun g e => by cases e; omega)
      replace Y5 := Y5.grow hb (fun g e => by cases e; omega)
      replace Y6 := Y6.grow hb (fun g e => by cases e; omega)
      have z_13 := hb.size
      (try simp only [World.size_alloc, World.size_setCell, szDrew] at z_13)
      clear hb
      clear kA0_0 kA1_0 kB1_0 kB2_0 kB3_0 kB4_0
      have kA0_0 := A0.cell 0 rfl
      have kA1_0 := A1.cell 0 rfl
      have kB1_0 := B1.cell 0 rfl
      have kB2_0 := B2.cell 0 rfl
      have kB3_0 := B3.cell 0 rfl
      have kB4_0 := B4.cell 0 rfl
      go_wp2_with fail
      refine (eqElement_same _ _ _ _ (sumR a b) _ (sumR_len a b) OG0.rd OW0.rd).mono ?_
      rintro e w14 ⟨rfl, hb⟩
      replace R0 := R0.bl hb
      replace R1 := R1.bl hb
      replace S := S.bl hb
      replace A0 := A0.bl hb
      replace A1 := A1.bl hb
      replace OW0 := OW0.bl hb
      replace B1 := B1.bl hb
      replace B2 := B2.bl hb
      replace B3 := B3.bl hb
      replace OG0 := OG0.bl hb
      replace B4 := B4.bl hb
      replace Y5 := Y5.bl hb
      replace Y6 := Y6.bl hb
      have z_14 := hb.size
      (try simp only [World.size_alloc, World.size_setCell, szDrew] at z_14)
      clear hb
      clear kA0_0 kA1_0 kB1_0 kB2_0 kB3_0 kB4_0
      have kA0_0 := A0.cell 0 rfl
      have kA1_0 := A1.cell 0 rfl
      have kB1_0 := B1.cell 0 rfl
      have kB2_0 := B2.cell 0 rfl
      have kB3_0 := B3.cell 0 rfl
      have kB4_0 := B4.cell 0 rfl
      go_wp2_with fail
      refine (markElement_g OG0 (sumR_len a b)).mono ?_
      rintro e w15 ⟨rfl, M0, hb⟩
      replace R0 := R0.grown hb (fun g e => by have := bG0 g e; omega)
      replace R1 := R1.grown hb (fun g e => by have := bG0 g e; omega)
      replace S := S.grow hb (fun g e => by have := bG0 g e; omega)
      replace A0 := A0.grow hb (fun g e => by first | (have := bG0 g e; omega) | (have := ne1 g e; omega))
      replace A1 := A1.grow hb (fun g e => by first | (have := bG0 g e; omega) | (have := ne1 g e; omega))
      replace OW0 := OW0.grow hb (fun k g hk e => by have := bW0 k hk; have := bG0 g e; omega)
      replace B1 := B1.grow hb (fun g e => by first | (have := bG0 g e; omega) | (have := ne1 g e; omega))
      replace B2 := B2.grow hb (fun g e => by first | (have := bG0 g e; omega) | (have := ne1 g e; omega))
      replace B3 := B3.grow hb (fun g e => by first | (have := bG0 g e; omega) | (have := ne1 g e; omega))
      replace B4 := B4.grow hb (fun g e => by first | (have := bG0 g e; omega) | (have := ne1 g e; omega))
      replace Y5 := Y5.grow hb (fun g e => by first | (have := bG0 g e; omega) | (have := ne1 g e; omega))
      replace Y6 := Y6.grow hb (fun g e => by first | (have := bG0 g e; omega) | (have := ne1 g e; omega))
      have z_15 := hb.size
      (try simp only [World.size_alloc, World.size_setCell, szDrew] at z_15)
      clear hb
      clear kA0_0 kA1_0 kB1_0 kB2_0 kB3_0 kB4_0
      have kA0_0 := A0.cell 0 rfl
      have kA1_0 := A1.cell 0 rfl
      have kB1_0 := B1.cell 0 rfl
      have kB2_0 := B2.cell 0 rfl
      have kB3_0 := B3.cell 0 rfl
      have kB4_0 := B4.cell 0 rfl
      go_wp2_with fail
      refine (heldElement_g _ M0 (sumR_len a b)).mono ?_
      rintro e w16 ⟨rfl, hb⟩
      replace R0 := R0.bl hb
      replace R1 := R1.bl hb
      replace S := S.bl hb
      replace A0 := A0.bl hb
      replace A1 := A1.bl hb
      replace OW0 := OW0.bl hb
      replace B1 := B1.bl hb
      replace B2 := B2.bl hb
      replace B3 := B3.bl hb
      replace B4 := B4.bl hb
      replace Y5 := Y5.bl hb
      replace Y6 := Y6.bl hb
      replace M0 := M0.bl hb
      have z_16 := hb.size
      (try simp only [World.size_alloc, World.size_setCell, szDrew] at z_16)
      clear hb
      clear kA0_0 kA1_0 kB1_0 kB2_0 kB3_0 kB4_0
      have kA0_0 := A0.cell 0 rfl
      have kA1_0 := A1.cell 0 rfl
      have kB1_0 := B1.cell 0 rfl
      have kB2_0 := B2.cell 0 rfl
      have kB3_0 := B3.cell 0 rfl
      have kB4_0 := B4.cell 0 rfl
      clear kA0_0 kA1_0 kB1_0 kB2_0 kB3_0 kB4_0
      have y_102 := bl_drew w16
      go_upto_region 31 with (fail)
      go_cut [15, 16] (fun s15 s16 wx => ∃ nb p d, s15 = .pointer (some ⟨nb, 0, none⟩) ∧ s16 = (.bool (sumOk a b)) ∧ CutSpots w16 nb p d (sumR a b) 28 wx)
      case first =>
        have R0_o := R0
        replace R0 := R0.bl y_102
        have R1_o := R1
        replace R1 := R1.bl y_102
        have S_o := S
        replace S := S.bl y_102
        have A0_o := A0
        replace A0 := A0.bl y_102
        have A1_o := A1
        replace A1 := A1.bl y_102
        have B1_o := B1
        replace B1 := B1.bl y_102
        have B2_o := B2
        replace B2 := B2.bl y_102
        have B3_o := B3
        replace B3 := B3.bl y_102
        have B4_o := B4
        replace B4 := B4.bl y_102
        have Y5_o := Y5
        replace Y5 := Y5.bl y_102
        have Y6_o := Y6
        replace Y6 := Y6.bl y_102
        clear M0
        have Z := (Since.refl w16).bl y_102
        have kA0_0 := A0.cell 0 rfl
        have kA1_0 := A1.cell 0 rfl
        have q_A0 := A0.lt
        have q_A1 := A1.lt
        (try simp only [World.size_alloc, World.size_setCell, szDrew] at q_A0 q_A1)
        go_region_held3 (fun w' => w'.cell? ⟨w.heap.size, 0, none⟩ = some (.slice p0 a.length c0) ∧ w'.cell? ⟨w.heap.size + 1, 0, none⟩ = some (.slice p1 b.length c1))
          (first | exact ⟨kA0_0, kA1_0⟩ | exact ⟨Blk.cell (b := w.heap.size) (cs := #[.slice p0 a.length c0]) (t := 24) (by (repeat (first | assumption | exact Blk.new _ _ _ | exact Since.refl _ | refine ArgRd.bl ?_ (bl_alloc _ _) | refine ArgRd.bl ?_ (bl_drew _) | refine ArgRd.bl ?_ (by assumption) | refine Copy.bl ?_ (bl_alloc _ _) | refine Copy.bl ?_ (bl_drew _) | refine Copy.bl ?_ (by assumption) | refine OwnSpots.bl ?_ (bl_alloc _ _) | refine OwnSpots.bl ?_ (bl_drew _) | refine OwnSpots.bl ?_ (by assumption) | refine Blk.bl ?_ (bl_alloc _ _) | refine Blk.bl ?_ (bl_drew _) | refine Blk.bl ?_ (by assumption) | refine Since.bl ?_ (bl_alloc _ _) | refine Since.bl ?_ (bl_drew _) | refine Since.bl ?_ (by assumption) | refine Blk.other ?_ (by (try dsimp only); (try simp only [World.size_alloc, World.size_setCell, szDrew]); omega) _))) 0 rfl, Blk.cell (b := w.heap.size + 1) (cs := #[.slice p1 b.length c1]) (t := 24) (by (repeat (first | assumption | exact Blk.new _ _ _ | exact Since.refl _ | refine ArgRd.bl ?_ (bl_alloc _ _) | refine ArgRd.bl ?_ (bl_drew _) | refine ArgRd.bl ?_ (by assumption) | refine Copy.bl ?_ (bl_alloc _ _) | refine Copy.bl ?_ (bl_drew _) | refine Copy.bl ?_ (by assumption) | refine OwnSpots.bl ?_ (bl_alloc _ _) | refine OwnSpots.bl ?_ (bl_drew _) | refine OwnSpots.bl ?_ (by assumption) | refine Blk.bl ?_ (bl_alloc _ _) | refine Blk.bl ?_ (bl_drew _) | refine Blk.bl ?_ (by assumption) | refine Since.bl ?_ (bl_alloc _ _) | refine Since.bl ?_ (bl_drew _) | refine Since.bl ?_ (by assumption) | refine Blk.other ?_ (by (try dsimp only); (try simp only [World.size_alloc, World.size_setCell, szDrew]); omega) _))) 0 rfl⟩)
          ((first | (go_at_call 12; (with_reducible refine (toElement_x (B := w.heap.size) ?_ hn0).mono ?_); (focus ((repeat (first | assumption | exact Blk.new _ _ _ | exact Since.refl _ | refine ArgRd.bl ?_ (bl_alloc _ _) | refine ArgRd.bl ?_ (bl_drew _) | refine ArgRd.bl ?_ (by assumption) | refine Copy.bl ?_ (bl_alloc _ _) | refine Copy.bl ?_ (bl_drew _) | refine Copy.bl ?_ (by assumption) | refine OwnSpots.bl ?_ (bl_alloc _ _) | refine OwnSpots.bl ?_ (bl_drew _) | refine OwnSpots.bl ?_ (by assumption) | refine Blk.bl ?_ (bl_alloc _ _) | refine Blk.bl ?_ (bl_drew _) | refine Blk.bl ?_ (by assumption) | refine Since.bl ?_ (bl_alloc _ _) | refine Since.bl ?_ (bl_drew _) | refine Since.bl ?_ (by assumption) | refine Blk.other ?_ (by (try dsimp only); (try simp only [World.size_alloc, World.size_setCell, szDrew]); omega) _)); done)); rintro e x4 ⟨gY7, rfl, Y7, hgY7, hc_4⟩; have s_hc_4 := hc_4.size; (try simp only [World.size_alloc, World.size_setCell, szDrew] at s_hc_4)) | (go_at_call 12; (with_reducible refine (toElement_x (B := w.heap.size) ?_ hn1).mono ?_); (focus ((repeat (first | assumption | exact Blk.new _ _ _ | exact Since.refl _ | refine ArgRd.bl ?_ (bl_alloc _ _) | refine ArgRd.bl ?_ (bl_drew _) | refine ArgRd.bl ?_ (by assumption) | refine Copy.bl ?_ (bl_alloc _ _) | refine Copy.bl ?_ (bl_drew _) | refine Copy.bl ?_ (by assumption) | refine OwnSpots.bl ?_ (bl_alloc _ _) | refine OwnSpots.bl ?_ (bl_drew _) | refine OwnSpots.bl ?_ (by assumption) | refine Blk.bl ?_ (bl_alloc _ _) | refine Blk.bl ?_ (bl_drew _) | refine Blk.bl ?_ (by assumption) | refine Since.bl ?_ (bl_alloc _ _) | refine Since.bl ?_ (bl_drew _) | refine Since.bl ?_ (by assumption) | refine Blk.other ?_ (by (try dsimp only); (try simp only [World.size_alloc, World.size_setCell, szDrew]); omega) _)); done)); rintro e x5 ⟨gY8, rfl, Y8, hgY8, hc_5⟩; have s_hc_5 := hc_5.size; (try simp only [World.size_alloc, World.size_setCell, szDrew] at s_hc_5)) | (go_at_call 32; (with_reducible refine (sum_any _ _ a _ _ b _ hn0 (Copy.rd (g := gY7) (t := 45) ?_) hn1 (Copy.rd (g := gY8) (t := 45) ?_)).mono ?_); (focus ((repeat (first | assumption | exact Blk.new _ _ _ | exact Since.refl _ | refine ArgRd.bl ?_ (bl_alloc _ _) | refine ArgRd.bl ?_ (bl_drew _) | refine ArgRd.bl ?_ (by assumption) | refine Copy.bl ?_ (bl_alloc _ _) | refine Copy.bl ?_ (bl_drew _) | refine Copy.bl ?_ (by assumption) | refine OwnSpots.bl ?_ (bl_alloc _ _) | refine OwnSpots.bl ?_ (bl_drew _) | refine OwnSpots.bl ?_ (by assumption) | refine Blk.bl ?_ (bl_alloc _ _) | refine Blk.bl ?_ (bl_drew _) | refine Blk.bl ?_ (by assumption) | refine Since.bl ?_ (bl_alloc _ _) | refine Since.bl ?_ (bl_drew _) | refine Since.bl ?_ (by assumption) | refine Blk.other ?_ (by (try dsimp only); (try simp only [World.size_alloc, World.size_setCell, szDrew]); omega) _)); done)); (focus ((repeat (first | assumption | exact Blk.new _ _ _ | exact Since.refl _ | refine ArgRd.bl ?_ (bl_alloc _ _) | refine ArgRd.bl ?_ (bl_drew _) | refine ArgRd.bl ?_ (by assumption) | refine Copy.bl ?_ (bl_alloc _ _) | refine Copy.bl ?_ (bl_drew _) | refine Copy.bl ?_ (by assumption) | refine OwnSpots.bl ?_ (bl_alloc _ _) | refine OwnSpots.bl ?_ (bl_drew _) | refine OwnSpots.bl ?_ (by assumption) | refine Blk.bl ?_ (bl_alloc _ _) | refine Blk.bl ?_ (bl_drew _) | refine Blk.bl ?_ (by assumption) | refine Since.bl ?_ (bl_alloc _ _) | refine Since.bl ?_ (bl_drew _) | refine Since.bl ?_ (by assumption) | refine Blk.other ?_ (by (try dsimp only); (try simp only [World.size_alloc, World.size_setCell, szDrew]); omega) _)); done)); rintro e x6 ⟨vH0, rfl, OH0, hc_6⟩; obtain ⟨pH0, dH0, rfl⟩ := OH0.form; have bH0 := OH0.ge; have s_hc_6 := hc_6.size; (try simp only [World.size_alloc, World.size_setCell, szDrew] at s_hc_6); replace OH0 : OwnSpots w16.heap.size _ _ _ := OH0.mono (by (try simp only [World.size_alloc, World.size_setCell, szDrew] at *); omega); (first | have NB := Blk.bl (Blk.new _ _ _) hc_6 | have NB := Blk.bl (Blk.bl (Blk.new _ _ _) hc_5) hc_6 | have NB := Blk.bl (Blk.bl (Blk.bl (Blk.bl (Blk.new _ _ _) (bl_drew _)) hc_4) hc_5) hc_6 | skip); (try simp only [World.size_alloc, World.size_setCell, szDrew] at NB); (try (have NB_c := NB.cell 0 rfl; have NB_g := NB.frozen 0)))))
        all_goals
          (try simp only [World.size_alloc, World.size_setCell, szDrew] at s_hc_4 s_hc_5 s_hc_6)
          go_wp2_with fail
          go_meet
          first
          | refine ⟨_, _, _, rfl, rfl, cut_spots (lo := w16.heap.size) (z := .slice none 0 0) ?_ ?_ (Nat.le_refl _) ?_ ?_ ?_⟩
            · (repeat (first | assumption | exact Blk.new _ _ _ | exact Since.refl _ | refine ArgRd.bl ?_ (bl_alloc _ _) | refine ArgRd.bl ?_ (bl_drew _) | refine ArgRd.bl ?_ (by assumption) | refine Copy.bl ?_ (bl_alloc _ _) | refine Copy.bl ?_ (bl_drew _) | refine Copy.bl ?_ (by assumption) | refine OwnSpots.bl ?_ (bl_alloc _ _) | refine OwnSpots.bl ?_ (bl_drew _) | refine OwnSpots.bl ?_ (by assumption) | refine Blk.bl ?_ (bl_alloc _ _) | refine Blk.bl ?_ (bl_drew _) | refine Blk.bl ?_ (by assumption) | refine Since.bl ?_ (bl_alloc _ _) | refine Since.bl ?_ (bl_drew _) | refine Since.bl ?_ (by assumption) | refine Blk.other ?_ (by (try dsimp only); (try simp only [World.size_alloc, World.size_setCell, szDrew]); omega) _))
            · (repeat (first | assumption | exact Blk.new _ _ _ | exact Since.refl _ | refine ArgRd.bl ?_ (bl_alloc _ _) | refine ArgRd.bl ?_ (bl_drew _) | refine ArgRd.bl ?_ (by assumption) | refine Copy.bl ?_ (bl_alloc _ _) | refine Copy.bl ?_ (bl_drew _) | refine Copy.bl ?_ (by assumption) | refine OwnSpots.bl ?_ (bl_alloc _ _) | refine OwnSpots.bl ?_ (bl_drew _) | refine OwnSpots.bl ?_ (by assumption) | refine Blk.bl ?_ (bl_alloc _ _) | refine Blk.bl ?_ (bl_drew _) | refine Blk.bl ?_ (by assumption) | refine Since.bl ?_ (bl_alloc _ _) | refine Since.bl ?_ (bl_drew _) | refine Since.bl ?_ (by assumption) | refine Blk.other ?_ (by (try dsimp only); (try simp only [World.size_alloc, World.size_setCell, szDrew]); omega) _))
            · refine Since.below ?_
              (repeat (first | assumption | exact Blk.new _ _ _ | exact Since.refl _ | refine ArgRd.bl ?_ (bl_alloc _ _) | refine ArgRd.bl ?_ (bl_drew _) | refine ArgRd.bl ?_ (by assumption) | refine Copy.bl ?_ (bl_alloc _ _) | refine Copy.bl ?_ (bl_drew _) | refine Copy.bl ?_ (by assumption) | refine OwnSpots.bl ?_ (bl_alloc _ _) | refine OwnSpots.bl ?_ (bl_drew _) | refine OwnSpots.bl ?_ (by assumption) | refine Blk.bl ?_ (bl_alloc _ _) | refine Blk.bl ?_ (bl_drew _) | refine Blk.bl ?_ (by assumption) | refine Since.bl ?_ (bl_alloc _ _) | refine Since.bl ?_ (bl_drew _) | refine Since.bl ?_ (by assumption) | refine Blk.other ?_ (by (try dsimp only); (try simp only [World.size_alloc, World.size_setCell, szDrew]); omega) _))
            · (try simp only [World.size_alloc, World.size_setCell, szDrew])
              omega
            · intro k hk e
              have := bH0 k hk
              (try simp only [World.size_alloc, World.size_setCell, szDrew] at this e)
              omega
          | refine ⟨_, _, _, rfl, rfl, cut_spots2 (lo := w16.heap.size) ?_ (Nat.le_refl _) ?_⟩
            · (repeat (first | assumption | exact Blk.new _ _ _ | exact Since.refl _ | refine ArgRd.bl ?_ (bl_alloc _ _) | refine ArgRd.bl ?_ (bl_drew _) | refine ArgRd.bl ?_ (by assumption) | refine Copy.bl ?_ (bl_alloc _ _) | refine Copy.bl ?_ (bl_drew _) | refine Copy.bl ?_ (by assumption) | refine OwnSpots.bl ?_ (bl_alloc _ _) | refine OwnSpots.bl ?_ (bl_drew _) | refine OwnSpots.bl ?_ (by assumption) | refine Blk.bl ?_ (bl_alloc _ _) | refine Blk.bl ?_ (bl_drew _) | refine Blk.bl ?_ (by assumption) | refine Since.bl ?_ (bl_alloc _ _) | refine Since.bl ?_ (bl_drew _) | refine Since.bl ?_ (by assumption) | refine Blk.other ?_ (by (try dsimp only); (try simp only [World.size_alloc, World.size_setCell, szDrew]); omega) _))
            · refine Since.below ?_
              (repeat (first | assumption | exact Blk.new _ _ _ | exact Since.refl _ | refine ArgRd.bl ?_ (bl_alloc _ _) | refine ArgRd.bl ?_ (bl_drew _) | refine ArgRd.bl ?_ (by assumption) | refine Copy.bl ?_ (bl_alloc _ _) | refine Copy.bl ?_ (bl_drew _) | refine Copy.bl ?_ (by assumption) | refine OwnSpots.bl ?_ (bl_alloc _ _) | refine OwnSpots.bl ?_ (bl_drew _) | refine OwnSpots.bl ?_ (by assumption) | refine Blk.bl ?_ (bl_alloc _ _) | refine Blk.bl ?_ (bl_drew _) | refine Blk.bl ?_ (by assumption) | refine Since.bl ?_ (bl_alloc _ _) | refine Since.bl ?_ (bl_drew _) | refine Since.bl ?_ (by assumption) | refine Blk.other ?_ (by (try dsimp only); (try simp only [World.size_alloc, World.size_setCell, szDrew]); omega) _))
      obtain ⟨nb2, pH0, dH0, rfl, rfl, hcut2⟩ := hcut
      have ew2 : ∃ w', w' = wc := ⟨wc, rfl⟩
      obtain ⟨w17, ew2⟩ := ew2
      subst ew2
      have hbz := hcut2.below
      replace R0 := R0.bl hbz
      replace R1 := R1.bl hbz
      replace S := S.bl hbz
      replace A0 := A0.bl hbz
      replace A1 := A1.bl hbz
      replace OW0 := OW0.bl hbz
      replace B1 := B1.bl hbz
      replace B2 := B2.bl hbz
      replace B3 := B3.bl hbz
      replace B4 := B4.bl hbz
      replace Y5 := Y5.bl hbz
      replace Y6 := Y6.bl hbz
      replace M0 := M0.bl hbz
      have z_17 := hbz.size
      (try simp only [World.size_alloc, World.size_setCell, szDrew] at z_17)
      clear hbz y_102
      have B5 := hcut2.blk
      have OH0 := hcut2.own
      have bH0 := OH0.ge
      have ge2 := hcut2.ge
      (try simp only [World.size_alloc, World.size_setCell, szDrew] at ge2 bH0)
      have lt2 := B5.lt
      have ne2 := hcut2.ne
      clear hcut2
      have kA0_0 := A0.cell 0 rfl
      have kA1_0 := A1.cell 0 rfl
      have kB1_0 := B1.cell 0 rfl
      have kB2_0 := B2.cell 0 rfl
      have kB3_0 := B3.cell 0 rfl
      have kB4_0 := B4.cell 0 rfl
      have kB5_0 := B5.cell 0 rfl
      go_wp2_with fail
      refine (eqElement_same _ _ _ _ (sumR a b) _ (sumR_len a b) OH0.rd OW0.rd).mono ?_
      rintro e w18 ⟨rfl, hb⟩
      replace R0 := R0.bl hb
      replace R1 := R1.bl hb
      replace S := S.bl hb
      replace A0 := A0.bl hb
      replace A1 := A1.bl hb
      replace OW0 := OW0.bl hb
      replace B1 := B1.bl hb
      replace B2 := B2.bl hb
      replace B3 := B3.bl hb
      replace B4 := B4.bl hb
      replace Y5 := Y5.bl hb
      replace Y6 := Y6.bl hb
      replace M0 := M0.bl hb
      replace OH0 := OH0.bl hb
      replace B5 := B5.bl hb
      have z_18 := hb.size
      (try simp only [World.size_alloc, World.size_setCell, szDrew] at z_18)
      clear hb
      clear kA0_0 kA1_0 kB1_0 kB2_0 kB3_0 kB4_0 kB5_0
      have kA0_0 := A0.cell 0 rfl
      have kA1_0 := A1.cell 0 rfl
      have kB1_0 := B1.cell 0 rfl
      have kB2_0 := B2.cell 0 rfl
      have kB3_0 := B3.cell 0 rfl
      have kB4_0 := B4.cell 0 rfl
      have kB5_0 := B5.cell 0 rfl
      go_wp2_with fail
      refine (heldElement_g _ M0 (sumR_len a b)).mono ?_
      rintro e w19 ⟨rfl, hb⟩
      replace R0 := R0.bl hb
      replace R1 := R1.bl hb
      replace S := S.bl hb
      replace A0 := A0.bl hb
      replace A1 := A1.bl hb
      replace OW0 := OW0.bl hb
      replace B1 := B1.bl hb
      replace B2 := B2.bl hb
      replace B3 := B3.bl hb
      replace B4 := B4.bl hb
      replace Y5 := Y5.bl hb
      replace Y6 := Y6.bl hb
      replace M0 := M0.bl hb
      replace OH0 := OH0.bl hb
      replace B5 := B5.bl hb
      have z_19 := hb.size
      (try simp only [World.size_alloc, World.size_setCell, szDrew] at z_19)
      clear hb
      clear kA0_0 kA1_0 kB1_0 kB2_0 kB3_0 kB4_0 kB5_0
      have kA0_0 := A0.cell 0 rfl
      have kA1_0 := A1.cell 0 rfl
      have kB1_0 := B1.cell 0 rfl
      have kB2_0 := B2.cell 0 rfl
      have kB3_0 := B3.cell 0 rfl
      have kB4_0 := B4.cell 0 rfl
      have kB5_0 := B5.cell 0 rfl
      clear kA0_0 kA1_0 kB1_0 kB2_0 kB3_0 kB4_0 kB5_0
      have kA0_0 := A0.cell 0 rfl
      have kA1_0 := A1.cell 0 rfl
      have kB1_0 := B1.cell 0 rfl
      have kB2_0 := B2.cell 0 rfl
      have kB3_0 := B3.cell 0 rfl
      have kB4_0 := B4.cell 0 rfl
      have kB5_0 := B5.cell 0 rfl
      go_wp2
      go_ret
      exact ⟨rfl, S.below⟩
open Go.ChangeShapes Go.WideShapes Go.ChangeAt
open Go.ChangeMaps (open_string shut_string)

set_option maxRecDepth 100000 in
theorem lifted (os : Os) (started : os.Started) (H : Type) (enc : TypeId × Value → H) :
    ReturnsInHanded {} Try.checked os 9 .any (Rows.fnExactSumElementsSpec.pre6 enc Try.prog Try.f9 Rows.fnExactSumElementsRow.domain false) (Rows.fnExactSumElementsSpec.post enc Try.prog Try.f9 false true false false) := by
  refine returnsInHanded_of_change (C := Try.checked) own started (by kernel_rfl) Try.func9
    (ChangeSpec.witness6 (enc := enc) (C := Try.checked) false ⟨#[], #[.agg #[.slice none 0 0], .agg #[.slice none 0 0]], []⟩ 8 (by kernel_rfl) (by kernel_rfl) (by kernel_rfl) (by kernel_rfl)) ?_
  intro W base args ds gs before hval0 hW hcnd _
  have hval : ∀ (j : Nat) t v, Try.f9.params[j]? = some t → args[j]? = some v → Value.okWide Try.prog W .any base t v := hval0
  have hW' := hW
  obtain ⟨p, q, hA0, hV, rfl, hfz, hnd⟩ := hW
  have hA : DataW.TrodAll enc Try.prog W 0 (fun _ => true) true Try.f9.params.toList args.toList ds p := hA0
  rw [Try.params9] at hA hval
  obtain ⟨v0, vs0, d0, ds0, p0, q0, hargs, rfl, rfl, h0, r0⟩ := trodAll_cons hA
  obtain ⟨v1, vs1, d1, ds1, p1, q1, rfl, rfl, rfl, h1, r1⟩ := trodAll_cons r0
  obtain ⟨rfl, rfl, rfl⟩ := trodAll_nil r1
  obtain rfl : args = #[v0, v1] := by cases args; simp_all
  obtain ⟨rfl, rfl⟩ := trodVars_none hV
  have t0 : ∀ x ∈ p0, x.block < W.heap.size := fun x hx => hW'.lt x (by simp [hx])
  have k0 := hval 0 24 v0 rfl rfl
  have m0 := h0
  obtain ⟨p0', c0', l0', rfl, p0'n, p0's, p0'r⟩ := open_Element k0 h0
  have t1 : ∀ x ∈ p1, x.block < W.heap.size := fun x hx => hW'.lt x (by simp [hx])
  have k1 := hval 1 24 v1 rfl rfl
  have m1 := h1
  obtain ⟨p1', c1', l1', rfl, p1'n, p1's, p1'r⟩ := open_Element k1 h1
  refine (walk p0' c0' l0' p1' c1' l1' W p0'n p0's p0'r p1'n p1's p1'r).mono fun e W' ⟨he, hb⟩ => ?_
  subst he
  refine ⟨_, rfl, _, _, _, [], _, [], hW', trodAll_mk1 (shut_bool Try.underlying4 _), (trodAll_cons_mk (Below.trod laidOut (by kernel_rfl) (of_decide_eq_true (by kernel_rfl)) m0 hb t0) (trodAll_cons_mk (Below.trod laidOut (by kernel_rfl) (of_decide_eq_true (by kernel_rfl)) m1 hb t1) trodAll_mk0)), rfl, hb.frame _, fun h => by cases h⟩

theorem over : Rows.fnExactSumElementsRow.holds Try.pinned (OpenSpec.ofChange Rows.fnExactSumElementsSpec) :=
  OpenClaim.holds_of_wide 9 Try.f9 rfl rfl rfl rfl rfl rfl rfl ⟨rfl, rfl, rfl, rfl, rfl⟩ rfl rfl rfl rfl rfl (by kernel_rfl) Try.func9 (by kernel_rfl)
    (of_decide_eq_true (by kernel_rfl)) (by unfold Func.isWrapper; first | (rw [if_pos (by decide +kernel)]; kernel_rfl) | (rw [if_neg (by decide +kernel)]; exact ⟨rfl, rfl⟩))
    (fun os started H enc _ => lifted os started H enc)

theorem proved : Rows.FnExactSumElementsSaid := over
#print axioms proved
end Go.Proofs.Ytheakjbbfdcbaaa.lawSumElements
