/- Contract of the reference's drawing of a picture: it makes some picture of the size. -/
import Derived.Test.YtakoklldmdbphaaSrc
import Derived.Test.YtakoklldmdbphaaSpecMk
import Derived.Deep.CutBlock
set_option linter.unusedVariables false
namespace Go.Proofs.Ytakoklldmdbphaa
open Go.RowKit

/-- A picture that is being drawn: the source in block b, the result's block r, the pixels in block r + 1. -/
structure DrRel (p : Option Addr) (c : Nat) (l : List Int) (b n : Nat) (w : World) (K : Nat) (wr : World) : Prop where
  src : Src wr b p c l K
  box : Box wr w.heap.size (.slice none 0 0) 30
  row : ∃ f, Bools wr (w.heap.size + 1) n f
  gr : w.grownBy wr (some b)
  lt : b < w.heap.size
theorem Bools.grown {w w' : World} {g n : Nat} {f : Nat → Bool} (h : Bools w g n f) {r : Option Nat} (hg : w.grownBy w' r) (hr : some g ≠ r) : Bools w' g n f := by
  obtain ⟨m, F, h1, hr2, h2⟩ := h.row
  exact ⟨m, F, h1, row_grown hg hr2 hr, h2⟩
theorem DrRel.pick {p : Option Addr} {c : Nat} {l : List Int} {b n : Nat} {w : World} {K K' : Nat} {wr w2 : World} (h : DrRel p c l b n w K wr) (hs : Src w2 b p c l K') (hg : wr.grownBy w2 (some b)) : DrRel p c l b n w K' w2 := by
  obtain ⟨f, hf⟩ := h.row
  have hlt := h.lt
  exact ⟨hs, h.box.grown hg (by intro e; cases e; omega), ⟨f, hf.grown hg (by intro e; cases e; omega)⟩, grown_trans h.gr hg, hlt⟩
theorem DrRel.more {p : Option Addr} {c : Nat} {l : List Int} {b n : Nat} {w : World} {K K' : Nat} {wr : World} (h : DrRel p c l b n w K wr) (hk : K ≤ K') : DrRel p c l b n w K' wr := ⟨h.src.more hk, h.box, h.row, h.gr, h.lt⟩
theorem DrRel.set {p : Option Addr} {c : Nat} {l : List Int} {b n : Nat} {w : World} {K : Nat} {wr : World} (h : DrRel p c l b n w K wr) (i : Nat) (v : Bool) : DrRel p c l b n w K (wr.setCell ⟨w.heap.size + 1, i, none⟩ (.bool v)) := by
  obtain ⟨f, hf⟩ := h.row
  have hlt := h.lt
  have hb := h.box.lt
  refine ⟨h.src.under (B := b + 1) ((Below.refl (b + 1) wr).setCell (p := ⟨w.heap.size + 1, i, none⟩) (by simp; omega) _) (by omega), h.box.other (a := ⟨w.heap.size + 1, i, none⟩) (by simp) _, ⟨_, hf.set i v⟩, ?_, hlt⟩
  have h1 := h.gr
  exact ⟨h1.os, h1.tape, h1.output, by simpa using h1.size, fun k hk hn => (Below.heap_setCell _ _ _ _ (by simp; omega)).trans (h1.block k hk hn)⟩
theorem DrRel.start {p : Option Addr} {c : Nat} {l : List Int} {b n : Nat} {w : World} {K : Nat} (h : Src w b p c l K) :
    DrRel p c l b n w K ((w.alloc (.cells #[.slice none 0 0] 30)).alloc (.cells (madeCells #[.bool false] n) 4)) := by
  refine ⟨(h.bl (bl_alloc _ _)).bl (bl_alloc _ _), (Box.new w _ _).alloc _, ⟨fun _ => false, ?_⟩, ?_, h.lt⟩
  · have h1 := World.rowIs_made (w.alloc (.cells #[.slice none 0 0] 30)) (.bool false) n 4
    rw [World.size_alloc] at h1
    exact ⟨_, _, Nat.le_refl _, h1, fun i hi => rfl⟩
  · exact grown_below (grown_below (grown_refl w _) (bl_alloc _ _) (Nat.le_refl _)) (bl_alloc _ _) (by simp)
set_option maxRecDepth 100000 in
set_option maxHeartbeats 4000000 in
theorem drawPic_any (b W H : Nat) (p : Option Addr) (c : Nat) (l : List Int) (w : World) (hW1 : 1 ≤ W) (hW2 : W ≤ 16) (hH1 : 1 ≤ H) (hH2 : H ≤ 16) (hl : l.length ≤ 1048576) (hsrc : Src w b p c l 10) :
    Calls Try.prog 108 #[.pointer (some ⟨b, 0, none⟩), .int .i64 W, .int .i64 H] w fun e w' => ∃ v f, e = .returned (.agg #[v]) ∧ OwnStrs w.heap.size w' v (render W H f) ∧ w.grownBy w' (some b) := by
  have hm := mul_256 hW2 hH2
  have hmk := run_make_row' (P := Try.prog) 102 4 (.bool false) 1 Try.underlying102 info_bool' rfl .i64 .i64 (W * H) (by omega) (by omega)
  rw [Int.natCast_mul] at hmk
  have d0 := DrRel.start (n := W * H) hsrc
  have hlt := hsrc.lt
  obtain ⟨N, eN⟩ : ∃ N, W * H = N := ⟨_, rfl⟩
  have cmk := fun (wr : World) (f : Nat → Bool) (h1 : Bools wr (w.heap.size + 1) (W * H) f) => l01Make_any (some ⟨w.heap.size + 1, 0, none⟩) W H (W * H) f wr hW1 hW2 hH2 h1.rd
  have hq1 : (W : Int) * (H : Int) ≤ 256 := by rw [← Int.natCast_mul]; exact Int.ofNat_le.2 hm
  have hq0 : (0 : Int) ≤ (W : Int) * (H : Int) := by rw [← Int.natCast_mul]; exact Int.natCast_nonneg _
  have hmm : ((W * H : Nat) : Int) = (W : Int) * (H : Int) := Int.natCast_mul _ _
  rw [eN] at d0 cmk hmm hm hmk
  have cp0 := pick_any 5 b p c l 10 _ (by omega) hl (by omega) d0.src
  have D0 := Lib.hid d0; clear d0
  have EN := Lib.hid eN; clear eN
  have Hsrc := Lib.hid hsrc; clear hsrc
  have Cmk := Lib.hid cmk; clear cmk
  have Cp0 := Lib.hid cp0; clear cp0
  have Hmm := Lib.hid hmm; clear hmm
  go_enter Try.func108, Try.ntmps108
  go_wp2_with fail
  clear hmk hq0 hq1
  with_reducible (refine Cp0.out.mono ?_)
  rintro e w1 ⟨r, -, hr5, rfl, S1, hg1⟩
  have d1 := D0.out.pick S1 hg1
  have hr4 : (r : Int) = 0 ∨ (r : Int) = 1 ∨ (r : Int) = 2 ∨ (r : Int) = 3 ∨ (r : Int) = 4 := by have := hr5 (by omega); omega
  generalize (r : Int) = z at hr4 ⊢
  clear S1 hg1 Cp0 D0 hr5 Hsrc
  have D1 := Lib.hid d1; clear d1
  go_upto_block 0 with (fail)
  go_cut [7] (fun s7 wx => s7 = .slice (some ⟨w.heap.size + 1, 0, none⟩) N N ∧ DrRel p c l b N w 600 wx)
  case first =>
    rcases hr4 with rfl | rfl | rfl | rfl | rfl
    · skip
      go_wp2
      go_loopw [30] (fun v wr => ∃ i : Nat, i ≤ N ∧ v = .int .i64 i ∧ DrRel p c l b N w (12 + 2 * i) wr) (fun v _ => N - (intOf v).toNat)
      case atStart => exact ⟨0, Nat.zero_le _, rfl, D1.out⟩
      case round =>
        clear D1
        obtain ⟨i, hi, rfl, d⟩ := hrel
        by_cases hlt2 : i < N
        · have cp := one_any 2 b p c l _ wr (by omega) hl (by omega) d.src
          have hi0 : (0 : Int) ≤ (i : Int) := Int.natCast_nonneg _
          have hi1 : (i : Int) < (N : Int) := by omega
          have D := Lib.hid d; clear d
          have Cp := Lib.hid cp; clear cp
          go_wp2_with fail
          with_reducible (refine Cp.out.mono ?_)
          rintro e w2 ⟨v, rfl, S2, hg2⟩
          have d2 := D.out.pick S2 hg2
          obtain ⟨f, hf⟩ := d2.row
          have c1 := hf.cell hlt2
          have f1 := hf.frozen i
          have d3 := d2.set i v
          clear S2 hg2 Cp D hf
          have D3 := Lib.hid d3; clear d3
          have D2 := Lib.hid d2; clear d2
          go_wp2
          go_roundw
          case rel => exact ⟨i + 1, by omega, by go_num, D3.out.more (by omega)⟩
          case measure => simp [intOf]; omega
        · obtain rfl : i = N := by omega
          have d9 := d.more (K' := 600) (by omega)
          have D9 := Lib.hid d9; clear d9
          clear d
          go_wp2_with fail
          go_meet
          exact ⟨rfl, D9.out⟩
    · skip
      go_wp2
      go_loopw [43] (fun v wr => ∃ i : Nat, i ≤ N ∧ v = .int .i64 i ∧ DrRel p c l b N w (12 + 2 * i) wr) (fun v _ => N - (intOf v).toNat)
      case atStart => exact ⟨0, Nat.zero_le _, rfl, D1.out⟩
      case round =>
        clear D1
        obtain ⟨i, hi, rfl, d⟩ := hrel
        by_cases hlt2 : i < N
        · have cp := one_any 4 b p c l _ wr (by omega) hl (by omega) d.src
          have hi0 : (0 : Int) ≤ (i : Int) := Int.natCast_nonneg _
          have hi1 : (i : Int) < (N : Int) := by omega
          have D := Lib.hid d; clear d
          have Cp := Lib.hid cp; clear cp
          go_wp2_with fail
          with_reducible (refine Cp.out.mono ?_)
          rintro e w2 ⟨v, rfl, S2, hg2⟩
          have d2 := D.out.pick S2 hg2
          obtain ⟨f, hf⟩ := d2.row
          have c1 := hf.cell hlt2
          have f1 := hf.frozen i
          have d3 := d2.set i v
          clear S2 hg2 Cp D hf
          have D3 := Lib.hid d3; clear d3
          have D2 := Lib.hid d2; clear d2
          go_wp2
          go_roundw
          case rel => exact ⟨i + 1, by omega, by go_num, D3.out.more (by omega)⟩
          case measure => simp [intOf]; omega
        · obtain rfl : i = N := by omega
          have d9 := d.more (K' := 600) (by omega)
          have D9 := Lib.hid d9; clear d9
          clear d
          go_wp2_with fail
          go_meet
          exact ⟨rfl, D9.out⟩
    · skip
      go_wp2
      go_loopw [56] (fun v wr => ∃ i : Nat, i ≤ N ∧ v = .int .i64 i ∧ DrRel p c l b N w (12 + 2 * i) wr) (fun v _ => N - (intOf v).toNat)
      case atStart => exact ⟨0, Nat.zero_le _, rfl, D1.out⟩
      case round =>
        clear D1
        obtain ⟨i, hi, rfl, d⟩ := hrel
        by_cases hlt2 : i < N
        · have cp := one_any 5 b p c l _ wr (by omega) hl (by omega) d.src
          have hi0 : (0 : Int) ≤ (i : Int) := Int.natCast_nonneg _
          have hi1 : (i : Int) < (N : Int) := by omega
          have D := Lib.hid d; clear d
          have Cp := Lib.hid cp; clear cp
          go_wp2_with fail
          with_reducible (refine Cp.out.mono ?_)
          rintro e w2 ⟨v, rfl, S2, hg2⟩
          have d2 := D.out.pick S2 hg2
          obtain ⟨f, hf⟩ := d2.row
          have c1 := hf.cell hlt2
          have f1 := hf.frozen i
          have d3 := d2.set i !v
          clear S2 hg2 Cp D hf
          have D3 := Lib.hid d3; clear d3
          have D2 := Lib.hid d2; clear d2
          go_wp2
          go_roundw
          case rel => exact ⟨i + 1, by omega, by go_num, D3.out.more (by omega)⟩
          case measure => simp [intOf]; omega
        · obtain rfl : i = N := by omega
          have d9 := d.more (K' := 600) (by omega)
          have D9 := Lib.hid d9; clear d9
          clear d
          go_wp2_with fail
          go_meet
          exact ⟨rfl, D9.out⟩
    · have cp := one_any 2 b p c l _ w1 (by omega) hl (by omega) D1.out.src
      have Cp := Lib.hid cp; clear cp
      go_wp2_with fail
      with_reducible (refine Cp.out.mono ?_)
      rintro e w2 ⟨v, rfl, S2, hg2⟩
      have d2 := D1.out.pick S2 hg2
      clear S2 hg2 Cp D1
      have D2 := Lib.hid d2; clear d2
      go_wp2
      go_loopw [72] (fun v wr => ∃ i : Nat, i ≤ N ∧ v = .int .i64 i ∧ DrRel p c l b N w 14 wr) (fun v _ => N - (intOf v).toNat)
      case atStart => exact ⟨0, Nat.zero_le _, rfl, D2.out⟩
      case round =>
        clear D2
        obtain ⟨i, hi, rfl, d2⟩ := hrel
        by_cases hlt2 : i < N
        · have hi0 : (0 : Int) ≤ (i : Int) := Int.natCast_nonneg _
          have hi1 : (i : Int) < (N : Int) := by omega
          obtain ⟨f, hf⟩ := d2.row
          have c1 := hf.cell hlt2
          have f1 := hf.frozen i
          have d3 := d2.set i v
          clear hf
          have D3 := Lib.hid d3; clear d3
          have D2 := Lib.hid d2; clear d2
          go_wp2
          go_roundw
          case rel => exact ⟨i + 1, by omega, by go_num, D3.out⟩
          case measure => simp [intOf]; omega
        · obtain rfl : i = N := by omega
          have d9 := d2.more (K' := 600) (by omega)
          have D9 := Lib.hid d9; clear d9
          clear d2
          go_wp2_with fail
          go_meet
          exact ⟨rfl, D9.out⟩
    · have d9 := D1.out.more (K' := 600) (by omega)
      have D9 := Lib.hid d9; clear d9
      clear D1
      go_wp2_with fail
      go_meet
      exact ⟨rfl, D9.out⟩
  case rest =>
  obtain ⟨rfl, d⟩ := hcut
  clear hr4
  have cp := pick_any 4 b p c l _ wc (by omega) hl (by omega) d.src
  have D := Lib.hid d; clear d
  have Cp := Lib.hid cp; clear cp
  clear D1
  go_wp2_with fail
  with_reducible (refine Cp.out.mono ?_)
  rintro e w2 ⟨k, -, hk4, rfl, S2, hg2⟩
  have d2 := D.out.pick S2 hg2
  have hk3 : k ≤ 3 := by have := hk4 (by omega); omega
  clear S2 hg2 Cp D hk4
  have D2 := Lib.hid d2; clear d2
  go_wp2
  go_loopw [13] (fun v wr => ∃ k : Nat, k ≤ 3 ∧ v = .int .i64 k ∧ DrRel p c l b N w (602 + 10 * (3 - k)) wr) (fun v _ => (intOf v).toNat)
  case atStart => exact ⟨k, by omega, rfl, D2.out.more (by omega)⟩
  case round =>
    clear D2
    obtain ⟨k, hk, rfl, d⟩ := hrel
    by_cases hk0 : 0 < k
    · have q1 := pick_any (W : Int) b p c l _ wr (by omega) hl (by omega) d.src
      have D := Lib.hid d; clear d
      have Q1 := Lib.hid q1; clear q1
      go_wp2_with fail
      with_reducible (refine Q1.out.mono ?_)
      rintro e w2 ⟨x, -, hx, rfl, S2, hg2⟩
      have d2 := D.out.pick S2 hg2
      have hx1 := hx (by omega)
      clear S2 hg2 Q1 D hx
      have q2 := pick_any (H : Int) b p c l _ w2 (by omega) hl (by omega) d2.src
      have D2 := Lib.hid d2; clear d2
      have Q2 := Lib.hid q2; clear q2
      go_wp2_with fail
      with_reducible (refine Q2.out.mono ?_)
      rintro e w3 ⟨y, -, hy, rfl, S3, hg3⟩
      have d3 := D2.out.pick S3 hg3
      have hy1 := hy (by omega)
      clear S3 hg3 Q2 D2 hy
      have q3 := pick_any ((W : Int) - (x : Int)) b p c l _ w3 (by omega) hl (by omega) d3.src
      have D3 := Lib.hid d3; clear d3
      have Q3 := Lib.hid q3; clear q3
      go_wp2_with fail
      with_reducible (refine Q3.out.mono ?_)
      rintro e w4 ⟨u, -, hu, rfl, S4, hg4⟩
      have d4 := D3.out.pick S4 hg4
      have hu1 := hu (by omega)
      clear S4 hg4 Q3 D3 hu
      have q4 := pick_any ((H : Int) - (y : Int)) b p c l _ w4 (by omega) hl (by omega) d4.src
      have D4 := Lib.hid d4; clear d4
      have Q4 := Lib.hid q4; clear q4
      go_wp2_with fail
      with_reducible (refine Q4.out.mono ?_)
      rintro e w5 ⟨v, -, hv, rfl, S5, hg5⟩
      have d5 := D4.out.pick S5 hg5
      have hv1 := hv (by omega)
      clear S5 hg5 Q4 D4 hv
      have q5 := one_any 3 b p c l _ w5 (by omega) hl (by omega) d5.src
      have D5 := Lib.hid d5; clear d5
      have Q5 := Lib.hid q5; clear q5
      go_wp2_with fail
      with_reducible (refine Q5.out.mono ?_)
      rintro e w6 ⟨z, rfl, S6, hg6⟩
      have d6 := (D5.out.pick S6 hg6).more (K' := 602 + 10 * (3 - (k - 1))) (by omega)
      clear S6 hg6 Q5 D5
      have D6 := Lib.hid d6; clear d6
      go_wp2
      go_loopw [109] (fun v wr => ∃ i : Nat, i ≤ N ∧ v = .int .i64 i ∧ DrRel p c l b N w (602 + 10 * (3 - (k - 1))) wr) (fun v _ => N - (intOf v).toNat)
      case atStart => exact ⟨0, Nat.zero_le _, rfl, D6.out⟩
      case round =>
        clear D6
        obtain ⟨i, hi, rfl, d⟩ := hrel
        by_cases hlt2 : i < N
        · have hi0 : (0 : Int) ≤ (i : Int) := Int.natCast_nonneg _
          have hi1 : (i : Int) < (N : Int) := by omega
          have hW0 : (W : Int) ≠ 0 := by omega
          obtain ⟨f, hf⟩ := d.row
          have c1 := hf.cell hlt2
          have f1 := hf.frozen i
          have d3 := d.set i (!z)
          clear hf
          have D3 := Lib.hid d3; clear d3
          have D := Lib.hid d; clear d
          go_wp2_with fail
          with_reducible (refine (l00In_any _ _ _ _).mono ?_)
          rintro e w7 ⟨rfl, rfl⟩
          generalize inB _ _ _ = g1
          cases g1
          · go_wp2
            go_roundw
            case rel => exact ⟨i + 1, by omega, by go_num, D.out⟩
            case measure => simp [intOf]; omega
          · go_wp2_with fail
            with_reducible (refine (l00In_any _ _ _ _).mono ?_)
            rintro e w8 ⟨rfl, rfl⟩
            generalize inB _ _ _ = g2
            cases g2
            · go_wp2
              go_roundw
              case rel => exact ⟨i + 1, by omega, by go_num, D.out⟩
              case measure => simp [intOf]; omega
            · go_wp2
              go_roundw
              case rel => exact ⟨i + 1, by omega, by go_num, D3.out⟩
              case measure => simp [intOf]; omega
        · obtain rfl : i = N := by omega
          have D := Lib.hid d; clear d
          go_wp2
          go_roundw
          case rel => exact ⟨k - 1, by omega, by go_num, D.out⟩
          case measure => simp [intOf]; omega
    · obtain rfl : k = 0 := by omega
      obtain ⟨f, hf⟩ := d.row
      have cm := Cmk.out wr f hf
      have hgr := d.gr
      have hbx := d.box
      have hlw := hbx.lt
      have Cm := Lib.hid cm; clear cm
      have D := Lib.hid d; clear d
      have Hf := Lib.hid hf; clear hf
      have Hgr := Lib.hid hgr; clear hgr
      go_wp2_with fail
      with_reducible (refine Cm.out.mono ?_)
      rintro e w2 ⟨v, rfl, O, hb⟩
      have B2 := hbx.bl hb
      have f0 := B2.frozen
      have f1 := B2.cell
      obtain ⟨p', c', rfl⟩ := O.form
      have e0 := (B2.set (.slice p' (render W H f).length c')).cell
      have O2 := (OwnStrs.set O (a := ⟨w.heap.size, 0, none⟩) hlw (.slice p' (render W H f).length c')).mono (show w.heap.size ≤ wr.heap.size by omega)
      have h1 := grown_below Hgr.out hb (by omega)
      have hg9 : w.grownBy (w2.setCell ⟨w.heap.size, 0, none⟩ (.slice p' (render W H f).length c')) (some b) :=
        ⟨h1.os, h1.tape, h1.output, by simpa using h1.size, fun k hk hn => (Below.heap_setCell _ _ _ _ (by simp; omega)).trans (h1.block k hk hn)⟩
      clear O hb B2 hbx h1 Cm Hf Hgr
      have Hg9 := Lib.hid hg9; clear hg9
      go_wp2
      exact bodyPost_ret (v := .agg #[.slice p' (render W H f).length c']) (by simp [results, Try.results108, go_sem, e0]) rfl ⟨_, f, rfl, O2, Hg9.out⟩
end Go.Proofs.Ytakoklldmdbphaa
