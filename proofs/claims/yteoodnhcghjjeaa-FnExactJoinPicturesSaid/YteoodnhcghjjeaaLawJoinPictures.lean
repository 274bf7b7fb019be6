/- The law of JoinPictures: for every input the call returns true, and the inputs read as they did. -/
import Derived.Test.YteoodnhcghjjeaaImplJoin
import Derived.Test.YteoodnhcghjjeaaLawKit
import Derived.Test.YteoodnhcghjjeaaOpen
set_option linter.unusedVariables false
set_option linter.unusedSimpArgs false
namespace Go.Proofs.Yteoodnhcghjjeaa.lawJoinPictures
open Go.RowKit Go.Proofs.Yteoodnhcghjjeaa
theorem joinL_len (op : Int) (ss ts : List ByteArray) (hn : ss.length ≤ 1048576) : (joinL op ss ts).length ≤ 1048576 := by
  unfold joinL picIf
  split
  · rw [render_len]; exact hn
  · simp
set_option maxRecDepth 100000 in
set_option maxHeartbeats 4000000 in
theorem walk (op : Int) (p1 : Option Addr) (c1 : Nat) (ss : List ByteArray) (p2 : Option Addr) (c2 : Nat) (ts : List ByteArray) (w : World) (hb0' : -9223372036854775808 ≤ op ∧ op ≤ 9223372036854775807) (hn1' : ss.length ≤ maxLen) (hs1' : ∀ s ∈ ss, s.size ≤ maxLen) (hr1' : Rd w p1 ss.length (strAt ss)) (hn2' : ts.length ≤ maxLen) (hs2' : ∀ s ∈ ts, s.size ≤ maxLen) (hr2' : Rd w p2 ts.length (strAt ts)) :
    Calls Try.prog 9 #[.int .i64 op, .agg #[.slice p1 ss.length c1], .agg #[.slice p2 ts.length c2]] w fun e w' => e = .returned (.bool true) ∧ Below w.heap.size w w' := by
  rcases Int.lt_or_le (szS ss 1048576) 0 with z1 | z1
  · have R1 := ArgRd.of_rd hr1'
    have R2 := ArgRd.of_rd hr2'
    have S := Since.refl w
    replace R1 := R1.bl (bl_alloc w (.cells #[.slice p1 ss.length c1] 24))
    replace R2 := R2.bl (bl_alloc w (.cells #[.slice p1 ss.length c1] 24))
    replace S := S.bl (bl_alloc w (.cells #[.slice p1 ss.length c1] 24))
    have A1 := Blk.new w #[.slice p1 ss.length c1] 24
    replace R1 := R1.bl (bl_alloc (w.alloc (.cells #[.slice p1 ss.length c1] 24)) (.cells #[.slice p2 ts.length c2] 24))
    replace R2 := R2.bl (bl_alloc (w.alloc (.cells #[.slice p1 ss.length c1] 24)) (.cells #[.slice p2 ts.length c2] 24))
    replace S := S.bl (bl_alloc (w.alloc (.cells #[.slice p1 ss.length c1] 24)) (.cells #[.slice p2 ts.length c2] 24))
    replace A1 := A1.bl (bl_alloc (w.alloc (.cells #[.slice p1 ss.length c1] 24)) (.cells #[.slice p2 ts.length c2] 24))
    have A2 := Blk.new (w.alloc (.cells #[.slice p1 ss.length c1] 24)) #[.slice p2 ts.length c2] 24
    simp only [World.size_alloc] at A2
    go_enter Try.func9, Try.ntmps9
    have kA1_0 := A1.cell 0 rfl
    have kA2_0 := A2.cell 0 rfl
    go_wp2_with fail
    refine (szPicture_any _ _ ss _ _ hn1' hs1' (by omega) (by omega) R1.rd).mono ?_
    rw [if_neg (by omega)]
    rintro e w1 ⟨rfl, hb⟩
    replace R1 := R1.bl hb
    replace R2 := R2.bl hb
    replace S := S.bl hb
    replace A1 := A1.bl hb
    replace A2 := A2.bl hb
    have z_1 := hb.size
    (try simp only [World.size_alloc, World.size_setCell, szDrew] at z_1)
    clear hb
    clear kA1_0 kA2_0
    have kA1_0 := A1.cell 0 rfl
    have kA2_0 := A2.cell 0 rfl
    go_wp2
    go_ret
    exact ⟨rfl, S.below⟩
  · have hn1 : ss.length ≤ 1048576 := by have := (szS_ok (by omega) z1).1; omega
    have hs1 : ∀ s ∈ ss, s.size ≤ 1048576 := fun s h => by have := (szS_ok (by omega) z1).2 s h; omega
    have zl1 := szS_le ss 1048576 (by omega)
    rcases Int.lt_or_le (szS ts (szS ss 1048576)) 0 with z2 | z2
    · have R1 := ArgRd.of_rd hr1'
      have R2 := ArgRd.of_rd hr2'
      have S := Since.refl w
      replace R1 := R1.bl (bl_alloc w (.cells #[.slice p1 ss.length c1] 24))
      replace R2 := R2.bl (bl_alloc w (.cells #[.slice p1 ss.length c1] 24))
      replace S := S.bl (bl_alloc w (.cells #[.slice p1 ss.length c1] 24))
      have A1 := Blk.new w #[.slice p1 ss.length c1] 24
      replace R1 := R1.bl (bl_alloc (w.alloc (.cells #[.slice p1 ss.length c1] 24)) (.cells #[.slice p2 ts.length c2] 24))
      replace R2 := R2.bl (bl_alloc (w.alloc (.cells #[.slice p1 ss.length c1] 24)) (.cells #[.slice p2 ts.length c2] 24))
      replace S := S.bl (bl_alloc (w.alloc (.cells #[.slice p1 ss.length c1] 24)) (.cells #[.slice p2 ts.length c2] 24))
      replace A1 := A1.bl (bl_alloc (w.alloc (.cells #[.slice p1 ss.length c1] 24)) (.cells #[.slice p2 ts.length c2] 24))
      have A2 := Blk.new (w.alloc (.cells #[.slice p1 ss.length c1] 24)) #[.slice p2 ts.length c2] 24
      simp only [World.size_alloc] at A2
      go_enter Try.func9, Try.ntmps9
      have kA1_0 := A1.cell 0 rfl
      have kA2_0 := A2.cell 0 rfl
      go_wp2_with fail
      refine (szPicture_any _ _ ss _ _ hn1' hs1' (by omega) (by omega) R1.rd).mono ?_
      rw [if_pos (by omega)]
      rintro e w1 ⟨rfl, hb⟩
      replace R1 := R1.bl hb
      replace R2 := R2.bl hb
      replace S := S.bl hb
      replace A1 := A1.bl hb
      replace A2 := A2.bl hb
      have z_1 := hb.size
      (try simp only [World.size_alloc, World.size_setCell, szDrew] at z_1)
      clear hb
      clear kA1_0 kA2_0
      have kA1_0 := A1.cell 0 rfl
      have kA2_0 := A2.cell 0 rfl
      go_wp2_with fail
      refine (szPicture_any _ _ ts _ _ hn2' hs2' (by omega) (by omega) R2.rd).mono ?_
      rw [if_neg (by omega)]
      rintro e w2 ⟨rfl, hb⟩
      replace R1 := R1.bl hb
      replace R2 := R2.bl hb
      replace S := S.bl hb
      replace A1 := A1.bl hb
      replace A2 := A2.bl hb
      have z_2 := hb.size
      (try simp only [World.size_alloc, World.size_setCell, szDrew] at z_2)
      clear hb
      clear kA1_0 kA2_0
      have kA1_0 := A1.cell 0 rfl
      have kA2_0 := A2.cell 0 rfl
      go_wp2
      go_ret
      exact ⟨rfl, S.below⟩
    · have hn2 : ts.length ≤ 1048576 := by have := (szS_ok (by omega) z2).1; omega
      have hs2 : ∀ s ∈ ts, s.size ≤ 1048576 := fun s h => by have := (szS_ok (by omega) z2).2 s h; omega
      have zl2 := szS_le ts (szS ss 1048576) (by omega)
      have R1 := ArgRd.of_rd hr1'
      have R2 := ArgRd.of_rd hr2'
      have S := Since.refl w
      replace R1 := R1.bl (bl_alloc w (.cells #[.slice p1 ss.length c1] 24))
      replace R2 := R2.bl (bl_alloc w (.cells #[.slice p1 ss.length c1] 24))
      replace S := S.bl (bl_alloc w (.cells #[.slice p1 ss.length c1] 24))
      have A1 := Blk.new w #[.slice p1 ss.length c1] 24
      replace R1 := R1.bl (bl_alloc (w.alloc (.cells #[.slice p1 ss.length c1] 24)) (.cells #[.slice p2 ts.length c2] 24))
      replace R2 := R2.bl (bl_alloc (w.alloc (.cells #[.slice p1 ss.length c1] 24)) (.cells #[.slice p2 ts.length c2] 24))
      replace S := S.bl (bl_alloc (w.alloc (.cells #[.slice p1 ss.length c1] 24)) (.cells #[.slice p2 ts.length c2] 24))
      replace A1 := A1.bl (bl_alloc (w.alloc (.cells #[.slice p1 ss.length c1] 24)) (.cells #[.slice p2 ts.length c2] 24))
      have A2 := Blk.new (w.alloc (.cells #[.slice p1 ss.length c1] 24)) #[.slice p2 ts.length c2] 24
      simp only [World.size_alloc] at A2
      go_enter Try.func9, Try.ntmps9
      have kA1_0 := A1.cell 0 rfl
      have kA2_0 := A2.cell 0 rfl
      go_wp2_with fail
      refine (szPicture_any _ _ ss _ _ hn1' hs1' (by omega) (by omega) R1.rd).mono ?_
      rw [if_pos (by omega)]
      rintro e w1 ⟨rfl, hb⟩
      replace R1 := R1.bl hb
      replace R2 := R2.bl hb
      replace S := S.bl hb
      replace A1 := A1.bl hb
      replace A2 := A2.bl hb
      have z_1 := hb.size
      (try simp only [World.size_alloc, World.size_setCell, szDrew] at z_1)
      clear hb
      clear kA1_0 kA2_0
      have kA1_0 := A1.cell 0 rfl
      have kA2_0 := A2.cell 0 rfl
      go_wp2_with fail
      refine (szPicture_any _ _ ts _ _ hn2' hs2' (by omega) (by omega) R2.rd).mono ?_
      rw [if_pos (by omega)]
      rintro e w2 ⟨rfl, hb⟩
      replace R1 := R1.bl hb
      replace R2 := R2.bl hb
      replace S := S.bl hb
      replace A1 := A1.bl hb
      replace A2 := A2.bl hb
      have z_2 := hb.size
      (try simp only [World.size_alloc, World.size_setCell, szDrew] at z_2)
      clear hb
      clear kA1_0 kA2_0
      have kA1_0 := A1.cell 0 rfl
      have kA2_0 := A2.cell 0 rfl
      clear kA1_0 kA2_0
      have y_101 := bl_drew w2
      go_upto_region 8 with (fail)
      go_cut [8, 9] (fun s8 s9 wx => ∃ nb p d, s8 = .pointer (some ⟨nb, 0, none⟩) ∧ s9 = (.bool (inB op 0 3 && likeB ss ts)) ∧ CutStrs w2 nb p d (joinL op ss ts) 28 wx)
      case first =>
        replace R1 := R1.bl y_101
        replace R2 := R2.bl y_101
        replace S := S.bl y_101
        replace A1 := A1.bl y_101
        replace A2 := A2.bl y_101
        have Z := (Since.refl w2).bl y_101
        have kA1_0 := A1.cell 0 rfl
        have kA2_0 := A2.cell 0 rfl
        have q_A1 := A1.lt
        have q_A2 := A2.lt
        (try simp only [World.size_alloc, World.size_setCell, szDrew] at q_A1 q_A2)
        go_region_held3 (fun w' => w'.cell? ⟨w.heap.size, 0, none⟩ = some (.slice p1 ss.length c1) ∧ w'.cell? ⟨w.heap.size + 1, 0, none⟩ = some (.slice p2 ts.length c2))
          (first | exact ⟨kA1_0, kA2_0⟩ | exact ⟨Blk.cell (b := w.heap.size) (cs := #[.slice p1 ss.length c1]) (t := 24) (by (repeat (first | assumption | exact Blk.new _ _ _ | exact Since.refl _ | refine ArgRd.bl ?_ (bl_alloc _ _) | refine ArgRd.bl ?_ (bl_drew _) | refine ArgRd.bl ?_ (by assumption) | refine Copy.bl ?_ (bl_alloc _ _) | refine Copy.bl ?_ (bl_drew _) | refine Copy.bl ?_ (by assumption) | refine OwnStrs.bl ?_ (bl_alloc _ _) | refine OwnStrs.bl ?_ (bl_drew _) | refine OwnStrs.bl ?_ (by assumption) | refine Blk.bl ?_ (bl_alloc _ _) | refine Blk.bl ?_ (bl_drew _) | refine Blk.bl ?_ (by assumption) | refine Since.bl ?_ (bl_alloc _ _) | refine Since.bl ?_ (bl_drew _) | refine Since.bl ?_ (by assumption) | refine Blk.other ?_ (by (try dsimp only); (try simp only [World.size_alloc, World.size_setCell, szDrew]); omega) _))) 0 rfl, Blk.cell (b := w.heap.size + 1) (cs := #[.slice p2 ts.length c2]) (t := 24) (by (repeat (first | assumption | exact Blk.new _ _ _ | exact Since.refl _ | refine ArgRd.bl ?_ (bl_alloc _ _) | refine ArgRd.bl ?_ (bl_drew _) | refine ArgRd.bl ?_ (by assumption) | refine Copy.bl ?_ (bl_alloc _ _) | refine Copy.bl ?_ (bl_drew _) | refine Copy.bl ?_ (by assumption) | refine OwnStrs.bl ?_ (bl_alloc _ _) | refine OwnStrs.bl ?_ (bl_drew _) | refine OwnStrs.bl ?_ (by assumption) | refine Blk.bl ?_ (bl_alloc _ _) | refine Blk.bl ?_ (bl_drew _) | refine Blk.bl ?_ (by assumption) | refine Since.bl ?_ (bl_alloc _ _) | refine Since.bl ?_ (bl_drew _) | refine Since.bl ?_ (by assumption) | refine Blk.other ?_ (by (try dsimp only); (try simp only [World.size_alloc, World.size_setCell, szDrew]); omega) _))) 0 rfl⟩)
          ((first | (go_at_call 17; (with_reducible refine (toPicture_x (B := w.heap.size) ?_ hn1).mono ?_); (focus ((repeat (first | assumption | exact Blk.new _ _ _ | exact Since.refl _ | refine ArgRd.bl ?_ (bl_alloc _ _) | refine ArgRd.bl ?_ (bl_drew _) | refine ArgRd.bl ?_ (by assumption) | refine Copy.bl ?_ (bl_alloc _ _) | refine Copy.bl ?_ (bl_drew _) | refine Copy.bl ?_ (by assumption) | refine OwnStrs.bl ?_ (bl_alloc _ _) | refine OwnStrs.bl ?_ (bl_drew _) | refine OwnStrs.bl ?_ (by assumption) | refine Blk.bl ?_ (bl_alloc _ _) | refine Blk.bl ?_ (bl_drew _) | refine Blk.bl ?_ (by assumption) | refine Since.bl ?_ (bl_alloc _ _) | refine Since.bl ?_ (bl_drew _) | refine Since.bl ?_ (by assumption) | refine Blk.other ?_ (by (try dsimp only); (try simp only [World.size_alloc, World.size_setCell, szDrew]); omega) _)); done)); rintro e x1 ⟨gY1, rfl, Y1, hgY1, hc_1⟩; have s_hc_1 := hc_1.size; (try simp only [World.size_alloc, World.size_setCell, szDrew] at s_hc_1)) | (go_at_call 17; (with_reducible refine (toPicture_x (B := w.heap.size) ?_ hn2).mono ?_); (focus ((repeat (first | assumption | exact Blk.new _ _ _ | exact Since.refl _ | refine ArgRd.bl ?_ (bl_alloc _ _) | refine ArgRd.bl ?_ (bl_drew _) | refine ArgRd.bl ?_ (by assumption) | refine Copy.bl ?_ (bl_alloc _ _) | refine Copy.bl ?_ (bl_drew _) | refine Copy.bl ?_ (by assumption) | refine OwnStrs.bl ?_ (bl_alloc _ _) | refine OwnStrs.bl ?_ (bl_drew _) | refine OwnStrs.bl ?_ (by assumption) | refine Blk.bl ?_ (bl_alloc _ _) | refine Blk.bl ?_ (bl_drew _) | refine Blk.bl ?_ (by assumption) | refine Since.bl ?_ (bl_alloc _ _) | refine Since.bl ?_ (bl_drew _) | refine Since.bl ?_ (by assumption) | refine Blk.other ?_ (by (try dsimp only); (try simp only [World.size_alloc, World.size_setCell, szDrew]); omega) _)); done)); rintro e x2 ⟨gY2, rfl, Y2, hgY2, hc_2⟩; have s_hc_2 := hc_2.size; (try simp only [World.size_alloc, World.size_setCell, szDrew] at s_hc_2)) | (go_at_call 35; (with_reducible refine (sJoinPictures_any op _ _ _ _ ss ts _ hn1 hs1 hn2 hs2 (Copy.rd (g := gY1) (t := 9) ?_) (Copy.rd (g := gY2) (t := 9) ?_)).mono ?_); (focus ((repeat (first | assumption | exact Blk.new _ _ _ | exact Since.refl _ | refine ArgRd.bl ?_ (bl_alloc _ _) | refine ArgRd.bl ?_ (bl_drew _) | refine ArgRd.bl ?_ (by assumption) | refine Copy.bl ?_ (bl_alloc _ _) | refine Copy.bl ?_ (bl_drew _) | refine Copy.bl ?_ (by assumption) | refine OwnStrs.bl ?_ (bl_alloc _ _) | refine OwnStrs.bl ?_ (bl_drew _) | refine OwnStrs.bl ?_ (by assumption) | refine Blk.bl ?_ (bl_alloc _ _) | refine Blk.bl ?_ (bl_drew _) | refine Blk.bl ?_ (by assumption) | refine Since.bl ?_ (bl_alloc _ _) | refine Since.bl ?_ (bl_drew _) | refine Since.bl ?_ (by assumption) | refine Blk.other ?_ (by (try dsimp only); (try simp only [World.size_alloc, World.size_setCell, szDrew]); omega) _)); done)); (focus ((repeat (first | assumption | exact Blk.new _ _ _ | exact Since.refl _ | refine ArgRd.bl ?_ (bl_alloc _ _) | refine ArgRd.bl ?_ (bl_drew _) | refine ArgRd.bl ?_ (by assumption) | refine Copy.bl ?_ (bl_alloc _ _) | refine Copy.bl ?_ (bl_drew _) | refine Copy.bl ?_ (by assumption) | refine OwnStrs.bl ?_ (bl_alloc _ _) | refine OwnStrs.bl ?_ (bl_drew _) | refine OwnStrs.bl ?_ (by assumption) | refine Blk.bl ?_ (bl_alloc _ _) | refine Blk.bl ?_ (bl_drew _) | refine Blk.bl ?_ (by assumption) | refine Since.bl ?_ (bl_alloc _ _) | refine Since.bl ?_ (bl_drew _) | refine Since.bl ?_ (by assumption) | refine Blk.other ?_ (by (try dsimp only); (try simp only [World.size_alloc, World.size_setCell, szDrew]); omega) _)); done)); rintro e x3 ⟨vW0, rfl, OW0, hc_3⟩; obtain ⟨pW0, dW0, rfl⟩ := OW0.form; have bW0 := OW0.ge; have s_hc_3 := hc_3.size; (try simp only [World.size_alloc, World.size_setCell, szDrew] at s_hc_3); replace OW0 : OwnStrs w2.heap.size _ _ _ := OW0.mono (by (try simp only [World.size_alloc, World.size_setCell, szDrew] at *); omega); (first | have NB := Blk.bl (Blk.new _ _ _) hc_3 | have NB := Blk.bl (Blk.bl (Blk.new _ _ _) hc_2) hc_3 | have NB := Blk.bl (Blk.bl (Blk.bl (Blk.bl (Blk.new _ _ _) (bl_drew _)) hc_1) hc_2) hc_3 | skip); (try (have NB_c := NB.cell 0 rfl; have NB_g := NB.frozen 0)))))
        all_goals
          (try simp only [World.size_alloc, World.size_setCell, szDrew] at s_hc_1 s_hc_2 s_hc_3)
          go_wp2_with fail
          go_meet
          first
          | refine ⟨_, _, _, rfl, rfl, cut_strs (lo := w2.heap.size) (z := .slice none 0 0) ?_ ?_ (Nat.le_refl _) ?_ ?_ ?_⟩
            · (repeat (first | assumption | exact Blk.new _ _ _ | exact Since.refl _ | refine ArgRd.bl ?_ (bl_alloc _ _) | refine ArgRd.bl ?_ (bl_drew _) | refine ArgRd.bl ?_ (by assumption) | refine Copy.bl ?_ (bl_alloc _ _) | refine Copy.bl ?_ (bl_drew _) | refine Copy.bl ?_ (by assumption) | refine OwnStrs.bl ?_ (bl_alloc _ _) | refine OwnStrs.bl ?_ (bl_drew _) | refine OwnStrs.bl ?_ (by assumption) | refine Blk.bl ?_ (bl_alloc _ _) | refine Blk.bl ?_ (bl_drew _) | refine Blk.bl ?_ (by assumption) | refine Since.bl ?_ (bl_alloc _ _) | refine Since.bl ?_ (bl_drew _) | refine Since.bl ?_ (by assumption) | refine Blk.other ?_ (by (try dsimp only); (try simp only [World.size_alloc, World.size_setCell, szDrew]); omega) _))
            · (repeat (first | assumption | exact Blk.new _ _ _ | exact Since.refl _ | refine ArgRd.bl ?_ (bl_alloc _ _) | refine ArgRd.bl ?_ (bl_drew _) | refine ArgRd.bl ?_ (by assumption) | refine Copy.bl ?_ (bl_alloc _ _) | refine Copy.bl ?_ (bl_drew _) | refine Copy.bl ?_ (by assumption) | refine OwnStrs.bl ?_ (bl_alloc _ _) | refine OwnStrs.bl ?_ (bl_drew _) | refine OwnStrs.bl ?_ (by assumption) | refine Blk.bl ?_ (bl_alloc _ _) | refine Blk.bl ?_ (bl_drew _) | refine Blk.bl ?_ (by assumption) | refine Since.bl ?_ (bl_alloc _ _) | refine Since.bl ?_ (bl_drew _) | refine Since.bl ?_ (by assumption) | refine Blk.other ?_ (by (try dsimp only); (try simp only [World.size_alloc, World.size_setCell, szDrew]); omega) _))
            · refine Since.below ?_
              (repeat (first | assumption | exact Blk.new _ _ _ | exact Since.refl _ | refine ArgRd.bl ?_ (bl_alloc _ _) | refine ArgRd.bl ?_ (bl_drew _) | refine ArgRd.bl ?_ (by assumption) | refine Copy.bl ?_ (bl_alloc _ _) | refine Copy.bl ?_ (bl_drew _) | refine Copy.bl ?_ (by assumption) | refine OwnStrs.bl ?_ (bl_alloc _ _) | refine OwnStrs.bl ?_ (bl_drew _) | refine OwnStrs.bl ?_ (by assumption) | refine Blk.bl ?_ (bl_alloc _ _) | refine Blk.bl ?_ (bl_drew _) | refine Blk.bl ?_ (by assumption) | refine Since.bl ?_ (bl_alloc _ _) | refine Since.bl ?_ (bl_drew _) | refine Since.bl ?_ (by assumption) | refine Blk.other ?_ (by (try dsimp only); (try simp only [World.size_alloc, World.size_setCell, szDrew]); omega) _))
            · (try simp only [World.size_alloc, World.size_setCell, szDrew])
              omega
            · intro k hk e
              have := bW0 k hk
              (try simp only [World.size_alloc, World.size_setCell, szDrew] at this e)
              omega
          | refine ⟨_, _, _, rfl, rfl, cut_strs2 (lo := w2.heap.size) ?_ (Nat.le_refl _) ?_⟩
            · (repeat (first | assumption | exact Blk.new _ _ _ | exact Since.refl _ | refine ArgRd.bl ?_ (bl_alloc _ _) | refine ArgRd.bl ?_ (bl_drew _) | refine ArgRd.bl ?_ (by assumption) | refine Copy.bl ?_ (bl_alloc _ _) | refine Copy.bl ?_ (bl_drew _) | refine Copy.bl ?_ (by assumption) | refine OwnStrs.bl ?_ (bl_alloc _ _) | refine OwnStrs.bl ?_ (bl_drew _) | refine OwnStrs.bl ?_ (by assumption) | refine Blk.bl ?_ (bl_alloc _ _) | refine Blk.bl ?_ (bl_drew _) | refine Blk.bl ?_ (by assumption) | refine Since.bl ?_ (bl_alloc _ _) | refine Since.bl ?_ (bl_drew _) | refine Since.bl ?_ (by assumption) | refine Blk.other ?_ (by (try dsimp only); (try simp only [World.size_alloc, World.size_setCell, szDrew]); omega) _))
            · refine Since.below ?_
              (repeat (first | assumption | exact Blk.new _ _ _ | exact Since.refl _ | refine ArgRd.bl ?_ (bl_alloc _ _) | refine ArgRd.bl ?_ (bl_drew _) | refine ArgRd.bl ?_ (by assumption) | refine Copy.bl ?_ (bl_alloc _ _) | refine Copy.bl ?_ (bl_drew _) | refine Copy.bl ?_ (by assumption) | refine OwnStrs.bl ?_ (bl_alloc _ _) | refine OwnStrs.bl ?_ (bl_drew _) | refine OwnStrs.bl ?_ (by assumption) | refine Blk.bl ?_ (bl_alloc _ _) | refine Blk.bl ?_ (bl_drew _) | refine Blk.bl ?_ (by assumption) | refine Since.bl ?_ (bl_alloc _ _) | refine Since.bl ?_ (bl_drew _) | refine Since.bl ?_ (by assumption) | refine Blk.other ?_ (by (try dsimp only); (try simp only [World.size_alloc, World.size_setCell, szDrew]); omega) _))
      obtain ⟨nb1, pW0, dW0, rfl, rfl, hcut1⟩ := hcut
      have ew1 : ∃ w', w' = wc := ⟨wc, rfl⟩
      obtain ⟨w3, ew1⟩ := ew1
      subst ew1
      have hbz := hcut1.below
      replace R1 := R1.bl hbz
      replace R2 := R2.bl hbz
      replace S := S.bl hbz
      replace A1 := A1.bl hbz
      replace A2 := A2.bl hbz
      have z_3 := hbz.size
      (try simp only [World.size_alloc, World.size_setCell, szDrew] at z_3)
      clear hbz y_101
      have B1 := hcut1.blk
      have OW0 := hcut1.own
      have bW0 := OW0.ge
      have ge1 := hcut1.ge
      (try simp only [World.size_alloc, World.size_setCell, szDrew] at ge1 bW0)
      have lt1 := B1.lt
      have ne1 := hcut1.ne
      clear hcut1
      have kA1_0 := A1.cell 0 rfl
      have kA2_0 := A2.cell 0 rfl
      have kB1_0 := B1.cell 0 rfl
      go_wp2_with fail
      refine (toPicture_x R1 hn1).mono ?_
      rintro e w4 ⟨gY3, rfl, Y3, hgY3, hb⟩
      replace R1 := R1.bl hb
      replace R2 := R2.bl hb
      replace S := S.bl hb
      replace A1 := A1.bl hb
      replace A2 := A2.bl hb
      replace OW0 := OW0.bl hb
      replace B1 := B1.bl hb
      have z_4 := hb.size
      (try simp only [World.size_alloc, World.size_setCell, szDrew] at z_4)
      have lY3 := Y3.lt
      (try simp only [World.size_alloc, World.size_setCell, szDrew] at hgY3)
      clear hb
      clear kA1_0 kA2_0 kB1_0
      have kA1_0 := A1.cell 0 rfl
      have kA2_0 := A2.cell 0 rfl
      have kB1_0 := B1.cell 0 rfl
      replace R1 := R1.bl (bl_alloc w4 (.cells #[.slice (some ⟨gY3, 0, none⟩) ss.length ss.length] 28))
      replace R2 := R2.bl (bl_alloc w4 (.cells #[.slice (some ⟨gY3, 0, none⟩) ss.length ss.length] 28))
      replace S := S.bl (bl_alloc w4 (.cells #[.slice (some ⟨gY3, 0, none⟩) ss.length ss.length] 28))
      replace A1 := A1.bl (bl_alloc w4 (.cells #[.slice (some ⟨gY3, 0, none⟩) ss.length ss.length] 28))
      replace A2 := A2.bl (bl_alloc w4 (.cells #[.slice (some ⟨gY3, 0, none⟩) ss.length ss.length] 28))
      replace OW0 := OW0.bl (bl_alloc w4 (.cells #[.slice (some ⟨gY3, 0, none⟩) ss.length ss.length] 28))
      replace B1 := B1.bl (bl_alloc w4 (.cells #[.slice (some ⟨gY3, 0, none⟩) ss.length ss.length] 28))
      replace Y3 := Y3.bl (bl_alloc w4 (.cells #[.slice (some ⟨gY3, 0, none⟩) ss.length ss.length] 28))
      have B2 := Blk.new w4 #[.slice (some ⟨gY3, 0, none⟩) ss.length ss.length] 28
      (try simp only [World.size_alloc] at B2)
      clear kA1_0 kA2_0 kB1_0
      have kA1_0 := A1.cell 0 rfl
      have kA2_0 := A2.cell 0 rfl
      have kB1_0 := B1.cell 0 rfl
      have kB2_0 := B2.cell 0 rfl
      go_wp2_with fail
      refine (toPicture_x R2 hn2).mono ?_
      rintro e w5 ⟨gY4, rfl, Y4, hgY4, hb⟩
      replace R1 := R1.bl hb
      replace R2 := R2.bl hb
      replace S := S.bl hb
      replace A1 := A1.bl hb
      replace A2 := A2.bl hb
      replace OW0 := OW0.bl hb
      replace B1 := B1.bl hb
      replace Y3 := Y3.bl hb
      replace B2 := B2.bl hb
      have z_5 := hb.size
      (try simp only [World.size_alloc, World.size_setCell, szDrew] at z_5)
      have lY4 := Y4.lt
      (try simp only [World.size_alloc, World.size_setCell, szDrew] at hgY4)
      clear hb
      clear kA1_0 kA2_0 kB1_0 kB2_0
      have kA1_0 := A1.cell 0 rfl
      have kA2_0 := A2.cell 0 rfl
      have kB1_0 := B1.cell 0 rfl
      have kB2_0 := B2.cell 0 rfl
      replace R1 := R1.bl (bl_alloc w5 (.cells #[.slice (some ⟨gY4, 0, none⟩) ts.length ts.length] 28))
      replace R2 := R2.bl (bl_alloc w5 (.cells #[.slice (some ⟨gY4, 0, none⟩) ts.length ts.length] 28))
      replace S := S.bl (bl_alloc w5 (.cells #[.slice (some ⟨gY4, 0, none⟩) ts.length ts.length] 28))
      replace A1 := A1.bl (bl_alloc w5 (.cells #[.slice (some ⟨gY4, 0, none⟩) ts.length ts.length] 28))
      replace A2 := A2.bl (bl_alloc w5 (.cells #[.slice (some ⟨gY4, 0, none⟩) ts.length ts.length] 28))
      replace OW0 := OW0.bl (bl_alloc w5 (.cells #[.slice (some ⟨gY4, 0, none⟩) ts.length ts.length] 28))
      replace B1 := B1.bl (bl_alloc w5 (.cells #[.slice (some ⟨gY4, 0, none⟩) ts.length ts.length] 28))
      replace Y3 := Y3.bl (bl_alloc w5 (.cells #[.slice (some ⟨gY4, 0, none⟩) ts.length ts.length] 28))
      replace B2 := B2.bl (bl_alloc w5 (.cells #[.slice (some ⟨gY4, 0, none⟩) ts.length ts.length] 28))
      replace Y4 := Y4.bl (bl_alloc w5 (.cells #[.slice (some ⟨gY4, 0, none⟩) ts.length ts.length] 28))
      have B3 := Blk.new w5 #[.slice (some ⟨gY4, 0, none⟩) ts.length ts.length] 28
      (try simp only [World.size_alloc] at B3)
      clear kA1_0 kA2_0 kB1_0 kB2_0
      have kA1_0 := A1.cell 0 rfl
      have kA2_0 := A2.cell 0 rfl
      have kB1_0 := B1.cell 0 rfl
      have kB2_0 := B2.cell 0 rfl
      have kB3_0 := B3.cell 0 rfl
      go_wp2_with fail
      refine (joinPictures_any op _ _ _ _ ss ts _ hn1 hs1 hn2 hs2 Y3.rd Y4.rd).mono ?_
      rintro e w6 ⟨vG0, rfl, OG0, hb⟩
      replace R1 := R1.bl hb
      replace R2 := R2.bl hb
      replace S := S.bl hb
      replace A1 := A1.bl hb
      replace A2 := A2.bl hb
      replace OW0 := OW0.bl hb
      replace B1 := B1.bl hb
      replace Y3 := Y3.bl hb
      replace B2 := B2.bl hb
      replace Y4 := Y4.bl hb
      replace B3 := B3.bl hb
      have z_6 := hb.size
      (try simp only [World.size_alloc, World.size_setCell, szDrew] at z_6)
      obtain ⟨pG0, dG0, rfl⟩ := OG0.form
      have bG0 := OG0.ge
      (try simp only [World.size_alloc, World.size_setCell, szDrew] at bG0)
      clear hb
      clear kA1_0 kA2_0 kB1_0 kB2_0 kB3_0
      have kA1_0 := A1.cell 0 rfl
      have kA2_0 := A2.cell 0 rfl
      have kB1_0 := B1.cell 0 rfl
      have kB2_0 := B2.cell 0 rfl
      have kB3_0 := B3.cell 0 rfl
      replace R1 := R1.bl (bl_alloc w6 (.cells #[.slice pG0 (joinL op ss ts).length dG0] 28))
      replace R2 := R2.bl (bl_alloc w6 (.cells #[.slice pG0 (joinL op ss ts).length dG0] 28))
      replace S := S.bl (bl_alloc w6 (.cells #[.slice pG0 (joinL op ss ts).length dG0] 28))
      replace A1 := A1.bl (bl_alloc w6 (.cells #[.slice pG0 (joinL op ss ts).length dG0] 28))
      replace A2 := A2.bl (bl_alloc w6 (.cells #[.slice pG0 (joinL op ss ts).length dG0] 28))
      replace OW0 := OW0.bl (bl_alloc w6 (.cells #[.slice pG0 (joinL op ss ts).length dG0] 28))
      replace B1 := B1.bl (bl_alloc w6 (.cells #[.slice pG0 (joinL op ss ts).length dG0] 28))
      replace Y3 := Y3.bl (bl_alloc w6 (.cells #[.slice pG0 (joinL op ss ts).length dG0] 28))
      replace B2 := B2.bl (bl_alloc w6 (.cells #[.slice pG0 (joinL op ss ts).length dG0] 28))
      replace Y4 := Y4.bl (bl_alloc w6 (.cells #[.slice pG0 (joinL op ss ts).length dG0] 28))
      replace B3 := B3.bl (bl_alloc w6 (.cells #[.slice pG0 (joinL op ss ts).length dG0] 28))
      replace OG0 := OG0.bl (bl_alloc w6 (.cells #[.slice pG0 (joinL op ss ts).length dG0] 28))
      have B4 := Blk.new w6 #[.slice pG0 (joinL op ss ts).length dG0] 28
      (try simp only [World.size_alloc] at B4)
      clear kA1_0 kA2_0 kB1_0 kB2_0 kB3_0
      have kA1_0 := A1.cell 0 rfl
      have kA2_0 := A2.cell 0 rfl
      have kB1_0 := B1.cell 0 rfl
      have kB2_0 := B2.cell 0 rfl
      have kB3_0 := B3.cell 0 rfl
      have kB4_0 := B4.cell 0 rfl
      go_wp2_with fail
      refine (eqPicture_same _ _ _ _ (joinL op ss ts) _ (joinL_len op ss ts hn1) OG0.rd OW0.rd).mono ?_
      rintro e w7 ⟨rfl, hb⟩
      replace R1 := R1.bl hb
      replace R2 := R2.bl hb
      replace S := S.bl hb
      replace A1 := A1.bl hb
      replace A2 := A2.bl hb
      replace OW0 := OW0.bl hb
      replace B1 := B1.bl hb
      replace Y3 := Y3.bl hb
      replace B2 := B2.bl hb
      replace Y4 := Y4.bl hb
      replace B3 := B3.bl hb
      replace OG0 := OG0.bl hb
      replace B4 := B4.bl hb
      have z_7 := hb.size
      (try simp only [World.size_alloc, World.size_setCell, szDrew] at z_7)
      clear hb
      clear kA1_0 kA2_0 kB1_0 kB2_0 kB3_0 kB4_0
      have kA1_0 := A1.cell 0 rfl
      have kA2_0 := A2.cell 0 rfl
      have kB1_0 := B1.cell 0 rfl
      have kB2_0 := B2.cell 0 rfl
      have kB3_0 := B3.cell 0 rfl
      have kB4_0 := B4.cell 0 rfl
      have y_0 := bl_drew w7
      replace R1 := R1.bl y_0
      replace R2 := R2.bl y_0
      replace S := S.bl y_0
      replace A1 := A1.bl y_0
      replace A2 := A2.bl y_0
      replace OW0 := OW0.bl y_0
      replace B1 := B1.bl y_0
      replace Y3 := Y3.bl y_0
      replace B2 := B2.bl y_0
      replace Y4 := Y4.bl y_0
      replace B3 := B3.bl y_0
      replace OG0 := OG0.bl y_0
      replace B4 := B4.bl y_0
      clear y_0
      clear kA1_0 kA2_0 kB1_0 kB2_0 kB3_0 kB4_0
      have kB2_0 := B2.cell 0 rfl
      have kA1_0 := A1.cell 0 rfl
      go_wp2_with fail
      go_region_held3 (fun w' => w'.cell? ⟨w4.heap.size, 0, none⟩ = some (.slice (some ⟨gY3, 0, none⟩) ss.length ss.length) ∧ w'.cell? ⟨w.heap.size, 0, none⟩ = some (.slice p1 ss.length c1))
        (first | exact ⟨B2.cell 0 rfl, A1.cell 0 rfl⟩ | exact ⟨(B2.bl hb_8).cell 0 rfl, (A1.bl hb_8).cell 0 rfl⟩ | exact ⟨((B2.bl hb_8).bl hb_9).cell 0 rfl, ((A1.bl hb_8).bl hb_9).cell 0 rfl⟩)
        ((first | (go_at_call 17; with_reducible (refine (toPicture_x R1 hn1).mono ?_); rintro e w8 ⟨gY5, rfl, Y5, hgY5, hb_8⟩; have lY5 := Y5.lt) | (go_at_call 19; with_reducible (refine (eqPicture_same _ _ _ _ ss _ hn1 (Y3.bl hb_8).rd Y5.rd).mono ?_); rintro e w9 ⟨rfl, hb_9⟩)))
      replace R1 := R1.bl hb_8
      replace R2 := R2.bl hb_8
      replace S := S.bl hb_8
      replace A1 := A1.bl hb_8
      replace A2 := A2.bl hb_8
      replace OW0 := OW0.bl hb_8
      replace B1 := B1.bl hb_8
      replace Y3 := Y3.bl hb_8
      replace B2 := B2.bl hb_8
      replace Y4 := Y4.bl hb_8
      replace B3 := B3.bl hb_8
      replace OG0 := OG0.bl hb_8
      replace B4 := B4.bl hb_8
      have z_8 := hb_8.size
      (try simp only [World.size_alloc, World.size_setCell, szDrew] at z_8)
      replace R1 := R1.bl hb_9
      replace R2 := R2.bl hb_9
      replace S := S.bl hb_9
      replace A1 := A1.bl hb_9
      replace A2 := A2.bl hb_9
      replace OW0 := OW0.bl hb_9
      replace B1 := B1.bl hb_9
      replace Y3 := Y3.bl hb_9
      replace B2 := B2.bl hb_9
      replace Y4 := Y4.bl hb_9
      replace B3 := B3.bl hb_9
      replace OG0 := OG0.bl hb_9
      replace B4 := B4.bl hb_9
      replace Y5 := Y5.bl hb_9
      have z_9 := hb_9.size
      (try simp only [World.size_alloc, World.size_setCell, szDrew] at z_9)
      (try simp only [World.size_alloc, World.size_setCell, szDrew] at hgY5)
      clear hb_8 hb_9
      clear kB2_0 kA1_0
      have kA1_0 := A1.cell 0 rfl
      have kA2_0 := A2.cell 0 rfl
      have kB1_0 := B1.cell 0 rfl
      have kB2_0 := B2.cell 0 rfl
      have kB3_0 := B3.cell 0 rfl
      have kB4_0 := B4.cell 0 rfl
      have y_0 := bl_drew w9
      replace R1 := R1.bl y_0
      replace R2 := R2.bl y_0
      replace S := S.bl y_0
      replace A1 := A1.bl y_0
      replace A2 := A2.bl y_0
      replace OW0 := OW0.bl y_0
      replace B1 := B1.bl y_0
      replace Y3 := Y3.bl y_0
      replace B2 := B2.bl y_0
      replace Y4 := Y4.bl y_0
      replace B3 := B3.bl y_0
      replace OG0 := OG0.bl y_0
      replace B4 := B4.bl y_0
      replace Y5 := Y5.bl y_0
      clear y_0
      clear kA1_0 kA2_0 kB1_0 kB2_0 kB3_0 kB4_0
      have kB3_0 := B3.cell 0 rfl
      have kA2_0 := A2.cell 0 rfl
      go_wp2_with fail
      go_region_held3 (fun w' => w'.cell? ⟨w5.heap.size, 0, none⟩ = some (.slice (some ⟨gY4, 0, none⟩) ts.length ts.length) ∧ w'.cell? ⟨w.heap.size + 1, 0, none⟩ = some (.slice p2 ts.length c2))
        (first | exact ⟨B3.cell 0 rfl, A2.cell 0 rfl⟩ | exact ⟨(B3.bl hb_10).cell 0 rfl, (A2.bl hb_10).cell 0 rfl⟩ | exact ⟨((B3.bl hb_10).bl hb_11).cell 0 rfl, ((A2.bl hb_10).bl hb_11).cell 0 rfl⟩)
        ((first | (go_at_call 17; with_reducible (refine (toPicture_x R2 hn2).mono ?_); rintro e w10 ⟨gY6, rfl, Y6, hgY6, hb_10⟩; have lY6 := Y6.lt) | (go_at_call 19; with_reducible (refine (eqPicture_same _ _ _ _ ts _ hn2 (Y4.bl hb_10).rd Y6.rd).mono ?_); rintro e w11 ⟨rfl, hb_11⟩)))
      replace R1 := R1.bl hb_10
      replace R2 := R2.bl hb_10
      replace S := S.bl hb_10
      replace A1 := A1.bl hb_10
      replace A2 := A2.bl hb_10
      replace OW0 := OW0.bl hb_10
      replace B1 := B1.bl hb_10
      replace Y3 := Y3.bl hb_10
      replace B2 := B2.bl hb_10
      replace Y4 := Y4.bl hb_10
      replace B3 := B3.bl hb_10
      replace OG0 := OG0.bl hb_10
      replace B4 := B4.bl hb_10
      replace Y5 := Y5.bl hb_10
      have z_10 := hb_10.size
      (try simp only [World.size_alloc, World.size_setCell, szDrew] at z_10)
      replace R1 := R1.bl hb_11
      replace R2 := R2.bl hb_11
      replace S := S.bl hb_11
      replace A1 := A1.bl hb_11
      replace A2 := A2.bl hb_11
      replace OW0 := OW0.bl hb_11
      replace B1 := B1.bl hb_11
      replace Y3 := Y3.bl hb_11
      replace B2 := B2.bl hb_11
      replace Y4 := Y4.bl hb_11
      replace B3 := B3.bl hb_11
      replace OG0 := OG0.bl hb_11
      replace B4 := B4.bl hb_11
      replace Y5 := Y5.bl hb_11
      replace Y6 := Y6.bl hb_11
      have z_11 := hb_11.size
      (try simp only [World.size_alloc, World.size_setCell, szDrew] at z_11)
      (try simp only [World.size_alloc, World.size_setCell, szDrew] at hgY6)
      clear hb_10 hb_11
      clear kB3_0 kA2_0
      have kA1_0 := A1.cell 0 rfl
      have kA2_0 := A2.cell 0 rfl
      have kB1_0 := B1.cell 0 rfl
      have kB2_0 := B2.cell 0 rfl
      have kB3_0 := B3.cell 0 rfl
      have kB4_0 := B4.cell 0 rfl
      go_wp2_with fail
      refine (markPicture_x _ Y3 hn1 _ (by omega) (by omega)).mono ?_
      rintro e w12 ⟨rfl, hb⟩
      replace R1 := R1.grown hb (fun g e => by cases e; omega)
      replace R2 := R2.grown hb (fun g e => by cases e; omega)
      replace S := S.grow hb (fun g e => by cases e; omega)
      replace A1 := A1.grow hb (fun g e => by cases e; omega)
      replace A2 := A2.grow hb (fun g e => by cases e; omega)
      replace OW0 := OW0.grow hb (fun k g hk e => by cases e; have := bW0 k hk; omega)
      replace B1 := B1.grow hb (fun g e => by cases e; omega)
      replace B2 := B2.grow hb (fun g e => by cases e; omega)
      replace Y4 := Y4.grow hb (fun g e => by cases e; omega)
      replace B3 := B3.grow hb (fun g e => by cases e; omega)
      replace OG0 := OG0.grow hb (fun k g hk e => by cases e; have := bG0 k hk; omega)
      replace B4 := B4.grow hb (fun g e => by cases e; omega)
      replace Y5 := Y5.grow hb (fun g e => by cases e; omega)
      replace Y6 := Y6.grow hb (fun g e => by cases e; omega)
      have z_12 := hb.size
      (try simp only [World.size_alloc, World.size_setCell, szDrew] at z_12)
      clear hb
      clear kA1_0 kA2_0 kB1_0 kB2_0 kB3_0 kB4_0
      have kA1_0 := A1.cell 0 rfl
      have kA2_0 := A2.cell 0 rfl
      have kB1_0 := B1.cell 0 rfl
      have kB2_0 := B2.cell 0 rfl
      have kB3_0 := B3.cell 0 rfl
      have kB4_0 := B4.cell 0 rfl
      go_wp2_with fail
      refine (markPicture_x _ Y4 hn2 _ (by omega) (by omega)).mono ?_
      rintro e w13 ⟨rfl, hb⟩
      replace R1 := R1.grown hb (fun g e => by cases e; omega)
      replace R2 := R2.grown hb (fun g e => by cases e; omega)
      replace S := S.grow hb (fun g e => by cases e; omega)
      replace A1 := A1.grow hb (fun g e => by cases e; omega)
      replace A2 := A2.grow hb (fun g e => by cases e; omega)
      replace OW0 := OW0.grow hb (fun k g hk e => by cases e; have := bW0 k hk; omega)
      replace B1 := B1.grow hb (fun g e => by cases e; omega)
      replace B2 := B2.grow hb (fun g e => by cases e; omega)
      replace B3 := B3.grow hb (fun g e => by cases e; omega)
      replace OG0 := OG0.grow hb (fun k g hk e => by cases e; have := bG0 k hk; omega)
      replace B4 := B4.grow hb (fun g e => by cases e; omega)
      replace Y5 := Y5.grow hb (fun g e => by cases e; omega)
      replace Y6 := Y6.grow hb (fun g e => by cases e; omega)
      have z_13 := hb.size
      (try simp only [World.size_alloc, World.size_setCell, szDrew] at z_13)
      clear hb
      clear kA1_0 kA2_0 kB1_0 kB2_0 kB3_0 kB4_0
      have kA1_0 := A1.cell 0 rfl
      have kA2_0 := A2.cell 0 rfl
      have kB1_0 := B1.cell 0 rfl
      have kB2_0 := B2.cell 0 rfl
      have kB3_0 := B3.cell 0 rfl
      have kB4_0 := B4.cell 0 rfl
      go_wp2_with fail
      refine (eqPicture_same _ _ _ _ (joinL op ss ts) _ (joinL_len op ss ts hn1) OG0.rd OW0.rd).mono ?_
      rintro e w14 ⟨rfl, hb⟩
      replace R1 := R1.bl hb
      replace R2 := R2.bl hb
      replace S := S.bl hb
      replace A1 := A1.bl hb
      replace A2 := A2.bl hb
      replace OW0 := OW0.bl hb
      replace B1 := B1.bl hb
      replace B2 := B2.bl hb
      replace B3 := B3.bl hb
      replace OG0 := OG0.bl hb
      replace B4 := B4.bl hb
      replace Y5 := Y5.bl hb
      replace Y6 := Y6.bl hb
      have z_14 := hb.size
      (try simp only [World.size_alloc, World.size_setCell, szDrew] at z_14)
      clear hb
      clear kA1_0 kA2_0 kB1_0 kB2_0 kB3_0 kB4_0
      have kA1_0 := A1.cell 0 rfl
      have kA2_0 := A2.cell 0 rfl
      have kB1_0 := B1.cell 0 rfl
      have kB2_0 := B2.cell 0 rfl
      have kB3_0 := B3.cell 0 rfl
      have kB4_0 := B4.cell 0 rfl
      go_wp2_with fail
      refine (markPicture_g OG0 (joinL_len op ss ts hn1)).mono ?_
      rintro e w15 ⟨rfl, M0, hb⟩
      replace R1 := R1.grown hb (fun g e => by have := bG0 g e; omega)
      replace R2 := R2.grown hb (fun g e => by have := bG0 g e; omega)
      replace S := S.grow hb (fun g e => by have := bG0 g e; omega)
      replace A1 := A1.grow hb (fun g e => by have := bG0 g e; omega)
      replace A2 := A2.grow hb (fun g e => by have := bG0 g e; omega)
      replace OW0 := OW0.grow hb (fun k g hk e => by have := bW0 k hk; have := bG0 g e; omega)
      replace B1 := B1.grow hb (fun g e => by have := bG0 g e; omega)
      replace B2 := B2.grow hb (fun g e => by have := bG0 g e; omega)
      replace B3 := B3.grow hb (fun g e => by have := bG0 g e; omega)
      replace B4 := B4.grow hb (fun g e => by have := bG0 g e; omega)
      replace Y5 := Y5.grow hb (fun g e => by have := bG0 g e; omega)
      replace Y6 := Y6.grow hb (fun g e => by have := bG0 g e; omega)
      have z_15 := hb.size
      (try simp only [World.size_alloc, World.size_setCell, szDrew] at z_15)
      clear hb
      clear kA1_0 kA2_0 kB1_0 kB2_0 kB3_0 kB4_0
      have kA1_0 := A1.cell 0 rfl
      have kA2_0 := A2.cell 0 rfl
      have kB1_0 := B1.cell 0 rfl
      have kB2_0 := B2.cell 0 rfl
      have kB3_0 := B3.cell 0 rfl
      have kB4_0 := B4.cell 0 rfl
      go_wp2_with fail
      refine (heldPicture_g _ M0 (joinL_len op ss ts hn1)).mono ?_
      rintro e w16 ⟨rfl, hb⟩
      replace R1 := R1.bl hb
      replace R2 := R2.bl hb
      replace S := S.bl hb
      replace A1 := A1.bl hb
      replace A2 := A2.bl hb
      replace OW0 := OW0.bl hb
      replace B1 := B1.bl hb
      replace B2 := B2.bl hb
      replace B3 := B3.bl hb
      replace B4 := B4.bl hb
      replace Y5 := Y5.bl hb
      replace Y6 := Y6.bl hb
      replace M0 := M0.bl hb
      have z_16 := hb.size
      (try simp only [World.size_alloc, World.size_setCell, szDrew] at z_16)
      clear hb
      clear kA1_0 kA2_0 kB1_0 kB2_0 kB3_0 kB4_0
      have kA1_0 := A1.cell 0 rfl
      have kA2_0 := A2.cell 0 rfl
      have kB1_0 := B1.cell 0 rfl
      have kB2_0 := B2.cell 0 rfl
      have kB3_0 := B3.cell 0 rfl
      have kB4_0 := B4.cell 0 rfl
      clear kA1_0 kA2_0 kB1_0 kB2_0 kB3_0 kB4_0
      have y_102 := bl_drew w16
      go_upto_region 31 with (fail)
      go_cut [17, 18] (fun s17 s18 wx => ∃ nb p d, s17 = .pointer (some ⟨nb, 0, none⟩) ∧ s18 = (.bool (inB op 0 3 && likeB ss ts)) ∧ CutStrs w16 nb p d (joinL op ss ts) 28 wx)
      case first =>
        replace R1 := R1.bl y_102
        replace R2 := R2.bl y_102
        replace S := S.bl y_102
        replace A1 := A1.bl y_102
        replace A2 := A2.bl y_102
        replace B1 := B1.bl y_102
        replace B2 := B2.bl y_102
        replace B3 := B3.bl y_102
        replace B4 := B4.bl y_102
        clear M0
        have Z := (Since.refl w16).bl y_102
        have kA1_0 := A1.cell 0 rfl
        have kA2_0 := A2.cell 0 rfl
        have q_A1 := A1.lt
        have q_A2 := A2.lt
        (try simp only [World.size_alloc, World.size_setCell, szDrew] at q_A1 q_A2)
        go_region_held3 (fun w' => w'.cell? ⟨w.heap.size, 0, none⟩ = some (.slice p1 ss.length c1) ∧ w'.cell? ⟨w.heap.size + 1, 0, none⟩ = some (.slice p2 ts.length c2))
          (first | exact ⟨kA1_0, kA2_0⟩ | exact ⟨Blk.cell (b := w.heap.size) (cs := #[.slice p1 ss.length c1]) (t := 24) (by (repeat (first | assumption | exact Blk.new _ _ _ | exact Since.refl _ | refine ArgRd.bl ?_ (bl_alloc _ _) | refine ArgRd.bl ?_ (bl_drew _) | refine ArgRd.bl ?_ (by assumption) | refine Copy.bl ?_ (bl_alloc _ _) | refine Copy.bl ?_ (bl_drew _) | refine Copy.bl ?_ (by assumption) | refine OwnStrs.bl ?_ (bl_alloc _ _) | refine OwnStrs.bl ?_ (bl_drew _) | refine OwnStrs.bl ?_ (by assumption) | refine Blk.bl ?_ (bl_alloc _ _) | refine Blk.bl ?_ (bl_drew _) | refine Blk.bl ?_ (by assumption) | refine Since.bl ?_ (bl_alloc _ _) | refine Since.bl ?_ (bl_drew _) | refine Since.bl ?_ (by assumption) | refine Blk.other ?_ (by (try dsimp only); (try simp only [World.size_alloc, World.size_setCell, szDrew]); omega) _))) 0 rfl, Blk.cell (b := w.heap.size + 1) (cs := #[.slice p2 ts.length c2]) (t := 24) (by (repeat (first | assumption | exact Blk.new _ _ _ | exact Since.refl _ | refine ArgRd.bl ?_ (bl_alloc _ _) | refine ArgRd.bl ?_ (bl_drew _) | refine ArgRd.bl ?_ (by assumption) | refine Copy.bl ?_ (bl_alloc _ _) | refine Copy.bl ?_ (bl_drew _) | refine Copy.bl ?_ (by assumption) | refine OwnStrs.bl ?_ (bl_alloc _ _) | refine OwnStrs.bl ?_ (bl_drew _) | refine OwnStrs.bl ?_ (by assumption) | refine Blk.bl ?_ (bl_alloc _ _) | refine Blk.bl ?_ (bl_drew _) | refine Blk.bl ?_ (by assumption) | refine Since.bl ?_ (bl_alloc _ _) | refine Since.bl ?_ (bl_drew _) | refine Since.bl ?_ (by assumption) | refine Blk.other ?_ (by (try dsimp only); (try simp only [World.size_alloc, World.size_setCell, szDrew]); omega) _))) 0 rfl⟩)
          ((first | (go_at_call 17; (with_reducible refine (toPicture_x (B := w.heap.size) ?_ hn1).mono ?_); (focus ((repeat (first | assumption | exact Blk.new _ _ _ | exact Since.refl _ | refine ArgRd.bl ?_ (bl_alloc _ _) | refine ArgRd.bl ?_ (bl_drew _) | refine ArgRd.bl ?_ (by assumption) | refine Copy.bl ?_ (bl_alloc _ _) | refine Copy.bl ?_ (bl_drew _) | refine Copy.bl ?_ (by assumption) | refine OwnStrs.bl ?_ (bl_alloc _ _) | refine OwnStrs.bl ?_ (bl_drew _) | refine OwnStrs.bl ?_ (by assumption) | refine Blk.bl ?_ (bl_alloc _ _) | refine Blk.bl ?_ (bl_drew _) | refine Blk.bl ?_ (by assumption) | refine Since.bl ?_ (bl_alloc _ _) | refine Since.bl ?_ (bl_drew _) | refine Since.bl ?_ (by assumption) | refine Blk.other ?_ (by (try dsimp only); (try simp only [World.size_alloc, World.size_setCell, szDrew]); omega) _)); done)); rintro e x4 ⟨gY7, rfl, Y7, hgY7, hc_4⟩; have s_hc_4 := hc_4.size; (try simp only [World.size_alloc, World.size_setCell, szDrew] at s_hc_4)) | (go_at_call 17; (with_reducible refine (toPicture_x (B := w.heap.size) ?_ hn2).mono ?_); (focus ((repeat (first | assumption | exact Blk.new _ _ _ | exact Since.refl _ | refine ArgRd.bl ?_ (bl_alloc _ _) | refine ArgRd.bl ?_ (bl_drew _) | refine ArgRd.bl ?_ (by assumption) | refine Copy.bl ?_ (bl_alloc _ _) | refine Copy.bl ?_ (bl_drew _) | refine Copy.bl ?_ (by assumption) | refine OwnStrs.bl ?_ (bl_alloc _ _) | refine OwnStrs.bl ?_ (bl_drew _) | refine OwnStrs.bl ?_ (by assumption) | refine Blk.bl ?_ (bl_alloc _ _) | refine Blk.bl ?_ (bl_drew _) | refine Blk.bl ?_ (by assumption) | refine Since.bl ?_ (bl_alloc _ _) | refine Since.bl ?_ (bl_drew _) | refine Since.bl ?_ (by assumption) | refine Blk.other ?_ (by (try dsimp only); (try simp only [World.size_alloc, World.size_setCell, szDrew]); omega) _)); done)); rintro e x5 ⟨gY8, rfl, Y8, hgY8, hc_5⟩; have s_hc_5 := hc_5.size; (try simp only [World.size_alloc, World.size_setCell, szDrew] at s_hc_5)) | (go_at_call 36; (with_reducible refine (joinPictures_any op _ _ _ _ ss ts _ hn1 hs1 hn2 hs2 (Copy.rd (g := gY7) (t := 9) ?_) (Copy.rd (g := gY8) (t := 9) ?_)).mono ?_); (focus ((repeat (first | assumption | exact Blk.new _ _ _ | exact Since.refl _ | refine ArgRd.bl ?_ (bl_alloc _ _) | refine ArgRd.bl ?_ (bl_drew _) | refine ArgRd.bl ?_ (by assumption) | refine Copy.bl ?_ (bl_alloc _ _) | refine Copy.bl ?_ (bl_drew _) | refine Copy.bl ?_ (by assumption) | refine OwnStrs.bl ?_ (bl_alloc _ _) | refine OwnStrs.bl ?_ (bl_drew _) | refine OwnStrs.bl ?_ (by assumption) | refine Blk.bl ?_ (bl_alloc _ _) | refine Blk.bl ?_ (bl_drew _) | refine Blk.bl ?_ (by assumption) | refine Since.bl ?_ (bl_alloc _ _) | refine Since.bl ?_ (bl_drew _) | refine Since.bl ?_ (by assumption) | refine Blk.other ?_ (by (try dsimp only); (try simp only [World.size_alloc, World.size_setCell, szDrew]); omega) _)); done)); (focus ((repeat (first | assumption | exact Blk.new _ _ _ | exact Since.refl _ | refine ArgRd.bl ?_ (bl_alloc _ _) | refine ArgRd.bl ?_ (bl_drew _) | refine ArgRd.bl ?_ (by assumption) | refine Copy.bl ?_ (bl_alloc _ _) | refine Copy.bl ?_ (bl_drew _) | refine Copy.bl ?_ (by assumption) | refine OwnStrs.bl ?_ (bl_alloc _ _) | refine OwnStrs.bl ?_ (bl_drew _) | refine OwnStrs.bl ?_ (by assumption) | refine Blk.bl ?_ (bl_alloc _ _) | refine Blk.bl ?_ (bl_drew _) | refine Blk.bl ?_ (by assumption) | refine Since.bl ?_ (bl_alloc _ _) | refine Since.bl ?_ (bl_drew _) | refine Since.bl ?_ (by assumption) | refine Blk.other ?_ (by (try dsimp only); (try simp only [World.size_alloc, World.size_setCell, szDrew]); omega) _)); done)); rintro e x6 ⟨vH0, rfl, OH0, hc_6⟩; obtain ⟨pH0, dH0, rfl⟩ := OH0.form; have bH0 := OH0.ge; have s_hc_6 := hc_6.size; (try simp only [World.size_alloc, World.size_setCell, szDrew] at s_hc_6); replace OH0 : OwnStrs w16.heap.size _ _ _ := OH0.mono (by (try simp only [World.size_alloc, World.size_setCell, szDrew] at *); omega); (first | have NB := Blk.bl (Blk.new _ _ _) hc_6 | have NB := Blk.bl (Blk.bl (Blk.new _ _ _) hc_5) hc_6 | have NB := Blk.bl (Blk.bl (Blk.bl (Blk.bl (Blk.new _ _ _) (bl_drew _)) hc_4) hc_5) hc_6 | skip); (try (have NB_c := NB.cell 0 rfl; have NB_g := NB.frozen 0)))))
        all_goals
          (try simp only [World.size_alloc, World.size_setCell, szDrew] at s_hc_4 s_hc_5 s_hc_6)
          go_wp2_with fail
          go_meet
          first
          | refine ⟨_, _, _, rfl, rfl, cut_strs (lo := w16.heap.size) (z := .slice none 0 0) ?_ ?_ (Nat.le_refl _) ?_ ?_ ?_⟩
            · (repeat (first | assumption | exact Blk.new _ _ _ | exact Since.refl _ | refine ArgRd.bl ?_ (bl_alloc _ _) | refine ArgRd.bl ?_ (bl_drew _) | refine ArgRd.bl ?_ (by assumption) | refine Copy.bl ?_ (bl_alloc _ _) | refine Copy.bl ?_ (bl_drew _) | refine Copy.bl ?_ (by assumption) | refine OwnStrs.bl ?_ (bl_alloc _ _) | refine OwnStrs.bl ?_ (bl_drew _) | refine OwnStrs.bl ?_ (by assumption) | refine Blk.bl ?_ (bl_alloc _ _) | refine Blk.bl ?_ (bl_drew _) | refine Blk.bl ?_ (by assumption) | refine Since.bl ?_ (bl_alloc _ _) | refine Since.bl ?_ (bl_drew _) | refine Since.bl ?_ (by assumption) | refine Blk.other ?_ (by (try dsimp only); (try simp only [World.size_alloc, World.size_setCell, szDrew]); omega) _))
            · (repeat (first | assumption | exact Blk.new _ _ _ | exact Since.refl _ | refine ArgRd.bl ?_ (bl_alloc _ _) | refine ArgRd.bl ?_ (bl_drew _) | refine ArgRd.bl ?_ (by assumption) | refine Copy.bl ?_ (bl_alloc _ _) | refine Copy.bl ?_ (bl_drew _) | refine Copy.bl ?_ (by assumption) | refine OwnStrs.bl ?_ (bl_alloc _ _) | refine OwnStrs.bl ?_ (bl_drew _) | refine OwnStrs.bl ?_ (by assumption) | refine Blk.bl ?_ (bl_alloc _ _) | refine Blk.bl ?_ (bl_drew _) | refine Blk.bl ?_ (by assumption) | refine Since.bl ?_ (bl_alloc _ _) | refine Since.bl ?_ (bl_drew _) | refine Since.bl ?_ (by assumption) | refine Blk.other ?_ (by (try dsimp only); (try simp only [World.size_alloc, World.size_setCell, szDrew]); omega) _))
            · refine Since.below ?_
              (repeat (first | assumption | exact Blk.new _ _ _ | exact Since.refl _ | refine ArgRd.bl ?_ (bl_alloc _ _) | refine ArgRd.bl ?_ (bl_drew _) | refine ArgRd.bl ?_ (by assumption) | refine Copy.bl ?_ (bl_alloc _ _) | refine Copy.bl ?_ (bl_drew _) | refine Copy.bl ?_ (by assumption) | refine OwnStrs.bl ?_ (bl_alloc _ _) | refine OwnStrs.bl ?_ (bl_drew _) | refine OwnStrs.bl ?_ (by assumption) | refine Blk.bl ?_ (bl_alloc _ _) | refine Blk.bl ?_ (bl_drew _) | refine Blk.bl ?_ (by assumption) | refine Since.bl ?_ (bl_alloc _ _) | refine Since.bl ?_ (bl_drew _) | refine Since.bl ?_ (by assumption) | refine Blk.other ?_ (by (try dsimp only); (try simp only [World.size_alloc, World.size_setCell, szDrew]); omega) _))
            · (try simp only [World.size_alloc, World.size_setCell, szDrew])
              omega
            · intro k hk e
              have := bH0 k hk
              (try simp only [World.size_alloc, World.size_setCell, szDrew] at this e)
              omega
          | refine ⟨_, _, _, rfl, rfl, cut_strs2 (lo := w16.heap.size) ?_ (Nat.le_refl _) ?_⟩
            · (repeat (first | assumption | exact Blk.new _ _ _ | exact Since.refl _ | refine ArgRd.bl ?_ (bl_alloc _ _) | refine ArgRd.bl ?_ (bl_drew _) | refine ArgRd.bl ?_ (by assumption) | refine Copy.bl ?_ (bl_alloc _ _) | refine Copy.bl ?_ (bl_drew _) | refine Copy.bl ?_ (by assumption) | refine OwnStrs.bl ?_ (bl_alloc _ _) | refine OwnStrs.bl ?_ (bl_drew _) | refine OwnStrs.bl ?_ (by assumption) | refine Blk.bl ?_ (bl_alloc _ _) | refine Blk.bl ?_ (bl_drew _) | refine Blk.bl ?_ (by assumption) | refine Since.bl ?_ (bl_alloc _ _) | refine Since.bl ?_ (bl_drew _) | refine Since.bl ?_ (by assumption) | refine Blk.other ?_ (by (try dsimp only); (try simp only [World.size_alloc, World.size_setCell, szDrew]); omega) _))
            · refine Since.below ?_
              (repeat (first | assumption | exact Blk.new _ _ _ | exact Since.refl _ | refine ArgRd.bl ?_ (bl_alloc _ _) | refine ArgRd.bl ?_ (bl_drew _) | refine ArgRd.bl ?_ (by assumption) | refine Copy.bl ?_ (bl_alloc _ _) | refine Copy.bl ?_ (bl_drew _) | refine Copy.bl ?_ (by assumption) | refine OwnStrs.bl ?_ (bl_alloc _ _) | refine OwnStrs.bl ?_ (bl_drew _) | refine OwnStrs.bl ?_ (by assumption) | refine Blk.bl ?_ (bl_alloc _ _) | refine Blk.bl ?_ (bl_drew _) | refine Blk.bl ?_ (by assumption) | refine Since.bl ?_ (bl_alloc _ _) | refine Since.bl ?_ (bl_drew _) | refine Since.bl ?_ (by assumption) | refine Blk.other ?_ (by (try dsimp only); (try simp only [World.size_alloc, World.size_setCell, szDrew]); omega) _))
      obtain ⟨nb2, pH0, dH0, rfl, rfl, hcut2⟩ := hcut
      have ew2 : ∃ w', w' = wc := ⟨wc, rfl⟩
      obtain ⟨w17, ew2⟩ := ew2
      subst ew2
      have hbz := hcut2.below
      replace R1 := R1.bl hbz
      replace R2 := R2.bl hbz
      replace S := S.bl hbz
      replace A1 := A1.bl hbz
      replace A2 := A2.bl hbz
      replace OW0 := OW0.bl hbz
      replace B1 := B1.bl hbz
      replace B2 := B2.bl hbz
      replace B3 := B3.bl hbz
      replace B4 := B4.bl hbz
      replace M0 := M0.bl hbz
      have z_17 := hbz.size
      (try simp only [World.size_alloc, World.size_setCell, szDrew] at z_17)
      clear hbz y_102
      have B5 := hcut2.blk
      have OH0 := hcut2.own
      have bH0 := OH0.ge
      have ge2 := hcut2.ge
      (try simp only [World.size_alloc, World.size_setCell, szDrew] at ge2 bH0)
      have lt2 := B5.lt
      have ne2 := hcut2.ne
      clear hcut2
      have kA1_0 := A1.cell 0 rfl
      have kA2_0 := A2.cell 0 rfl
      have kB1_0 := B1.cell 0 rfl
      have kB2_0 := B2.cell 0 rfl
      have kB3_0 := B3.cell 0 rfl
      have kB4_0 := B4.cell 0 rfl
      have kB5_0 := B5.cell 0 rfl
      go_wp2_with fail
      refine (eqPicture_same _ _ _ _ (joinL op ss ts) _ (joinL_len op ss ts hn1) OH0.rd OW0.rd).mono ?_
      rintro e w18 ⟨rfl, hb⟩
      replace R1 := R1.bl hb
      replace R2 := R2.bl hb
      replace S := S.bl hb
      replace A1 := A1.bl hb
      replace A2 := A2.bl hb
      replace OW0 := OW0.bl hb
      replace B1 := B1.bl hb
      replace B2 := B2.bl hb
      replace B3 := B3.bl hb
      replace B4 := B4.bl hb
      replace M0 := M0.bl hb
      replace OH0 := OH0.bl hb
      replace B5 := B5.bl hb
      have z_18 := hb.size
      (try simp only [World.size_alloc, World.size_setCell, szDrew] at z_18)
      clear hb
      clear kA1_0 kA2_0 kB1_0 kB2_0 kB3_0 kB4_0 kB5_0
      have kA1_0 := A1.cell 0 rfl
      have kA2_0 := A2.cell 0 rfl
      have kB1_0 := B1.cell 0 rfl
      have kB2_0 := B2.cell 0 rfl
      have kB3_0 := B3.cell 0 rfl
      have kB4_0 := B4.cell 0 rfl
      have kB5_0 := B5.cell 0 rfl
      go_wp2_with fail
      refine (heldPicture_g _ M0 (joinL_len op ss ts hn1)).mono ?_
      rintro e w19 ⟨rfl, hb⟩
      replace R1 := R1.bl hb
      replace R2 := R2.bl hb
      replace S := S.bl hb
      replace A1 := A1.bl hb
      replace A2 := A2.bl hb
      replace OW0 := OW0.bl hb
      replace B1 := B1.bl hb
      replace B2 := B2.bl hb
      replace B3 := B3.bl hb
      replace B4 := B4.bl hb
      replace M0 := M0.bl hb
      replace OH0 := OH0.bl hb
      replace B5 := B5.bl hb
      have z_19 := hb.size
      (try simp only [World.size_alloc, World.size_setCell, szDrew] at z_19)
      clear hb
      clear kA1_0 kA2_0 kB1_0 kB2_0 kB3_0 kB4_0 kB5_0
      have kA1_0 := A1.cell 0 rfl
      have kA2_0 := A2.cell 0 rfl
      have kB1_0 := B1.cell 0 rfl
      have kB2_0 := B2.cell 0 rfl
      have kB3_0 := B3.cell 0 rfl
      have kB4_0 := B4.cell 0 rfl
      have kB5_0 := B5.cell 0 rfl
      clear kA1_0 kA2_0 kB1_0 kB2_0 kB3_0 kB4_0 kB5_0
      have kA1_0 := A1.cell 0 rfl
      have kA2_0 := A2.cell 0 rfl
      have kB1_0 := B1.cell 0 rfl
      have kB2_0 := B2.cell 0 rfl
      have kB3_0 := B3.cell 0 rfl
      have kB4_0 := B4.cell 0 rfl
      have kB5_0 := B5.cell 0 rfl
      go_wp2
      go_ret
      exact ⟨rfl, S.below⟩
open Go.ChangeShapes Go.WideShapes Go.ChangeAt
open Go.ChangeMaps (open_string shut_string)

set_option maxRecDepth 100000 in
theorem lifted (os : Os) (started : os.Started) (H : Type) (enc : TypeId × Value → H) :
    ReturnsInHanded {} Try.checked os 9 .any (Rows.fnExactJoinPicturesSpec.pre6 enc Try.prog Try.f9 Rows.fnExactJoinPicturesRow.domain false) (Rows.fnExactJoinPicturesSpec.post enc Try.prog Try.f9 false true false false) := by
  refine returnsInHanded_of_change (C := Try.checked) own started (by kernel_rfl) Try.func9
    (ChangeSpec.witness6 (enc := enc) (C := Try.checked) false ⟨#[], #[.int .i64 0, .agg #[.slice none 0 0], .agg #[.slice none 0 0]], []⟩ 8 (by kernel_rfl) (by kernel_rfl) (by kernel_rfl) (by kernel_rfl)) ?_
  intro W base args ds gs before hval0 hW hcnd _
  have hval : ∀ (j : Nat) t v, Try.f9.params[j]? = some t → args[j]? = some v → Value.okWide Try.prog W .any base t v := hval0
  have hW' := hW
  obtain ⟨p, q, hA0, hV, rfl, hfz, hnd⟩ := hW
  have hA : DataW.TrodAll enc Try.prog W 0 (fun _ => true) true Try.f9.params.toList args.toList ds p := hA0
  rw [Try.params9] at hA hval
  obtain ⟨v0, vs0, d0, ds0, p0, q0, hargs, rfl, rfl, h0, r0⟩ := trodAll_cons hA
  obtain ⟨v1, vs1, d1, ds1, p1, q1, rfl, rfl, rfl, h1, r1⟩ := trodAll_cons r0
  obtain ⟨v2, vs2, d2, ds2, p2, q2, rfl, rfl, rfl, h2, r2⟩ := trodAll_cons r1
  obtain ⟨rfl, rfl, rfl⟩ := trodAll_nil r2
  obtain rfl : args = #[v0, v1, v2] := by cases args; simp_all
  obtain ⟨rfl, rfl⟩ := trodVars_none hV
  have t0 : ∀ x ∈ p0, x.block < W.heap.size := fun x hx => hW'.lt x (by simp [hx])
  have k0 := hval 0 2 v0 rfl rfl
  have m0 := h0
  obtain ⟨x0', rfl, rfl, rfl, x0'w⟩ := open_int Try.underlying2 k0 h0
  have t1 : ∀ x ∈ p1, x.block < W.heap.size := fun x hx => hW'.lt x (by simp [hx])
  have k1 := hval 1 24 v1 rfl rfl
  have m1 := h1
  obtain ⟨p1', c1', ss1', rfl, p1'n, p1's, p1'r⟩ := open_Picture k1 h1
  have t2 : ∀ x ∈ p2, x.block < W.heap.size := fun x hx => hW'.lt x (by simp [hx])
  have k2 := hval 2 24 v2 rfl rfl
  have m2 := h2
  obtain ⟨p2', c2', ss2', rfl, p2'n, p2's, p2'r⟩ := open_Picture k2 h2
  refine (walk x0' p1' c1' ss1' p2' c2' ss2' W (bounds_i64 x0'w) p1'n p1's p1'r p2'n p2's p2'r).mono fun e W' ⟨he, hb⟩ => ?_
  subst he
  refine ⟨_, rfl, _, _, _, [], _, [], hW', trodAll_mk1 (shut_bool Try.underlying4 _), (trodAll_cons_mk (Below.trod laidOut (by kernel_rfl) (of_decide_eq_true (by kernel_rfl)) m0 hb t0) (trodAll_cons_mk (Below.trod laidOut (by kernel_rfl) (of_decide_eq_true (by kernel_rfl)) m1 hb t1) (trodAll_cons_mk (Below.trod laidOut (by kernel_rfl) (of_decide_eq_true (by kernel_rfl)) m2 hb t2) trodAll_mk0))), rfl, hb.frame _, fun h => by cases h⟩

theorem over : Rows.fnExactJoinPicturesRow.holds Try.pinned (OpenSpec.ofChange Rows.fnExactJoinPicturesSpec) :=
  OpenClaim.holds_of_wide 9 Try.f9 rfl rfl rfl rfl rfl rfl rfl ⟨rfl, rfl, rfl, rfl, rfl⟩ rfl rfl rfl rfl rfl (by kernel_rfl) Try.func9 (by kernel_rfl)
    (of_decide_eq_true (by kernel_rfl)) (by unfold Func.isWrapper; first | (rw [if_pos (by decide +kernel)]; kernel_rfl) | (rw [if_neg (by decide +kernel)]; exact ⟨rfl, rfl⟩))
    (fun os started H enc _ => lifted os started H enc)

theorem proved : Rows.FnExactJoinPicturesSaid := over
#print axioms proved
end Go.Proofs.Yteoodnhcghjjeaa.lawJoinPictures
