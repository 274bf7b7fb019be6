/- Contracts of the reference's drawing of a square: it makes some picture of a side 1, 2, 4, 8 or 16. -/
import Derived.Test.YtnenogpagkepfaaDrawRel
import Derived.Test.YtnenogpagkepfaaInts
import Derived.Test.YtnenogpagkepfaaRender
import Derived.Deep.CutBlock
set_option linter.unusedVariables false
set_option linter.unusedSimpArgs false
namespace Go.Proofs.Ytnenogpagkepfaa
open Go.RowKit

set_option maxHeartbeats 2000000 in
theorem among_any (b : Nat) (p : Option Addr) (c : Nat) (l : List Int) (K : Nat) (q : Option Addr) (d : Nat) (xs : List Int) (w : World) (hK : K ≤ 999990) (hl : l.length ≤ 1048576) (h1 : 1 ≤ xs.length) (h2 : xs.length ≤ 100) (h : Src w b p c l K)
    (hr : Rd w q xs.length (intAt xs)) (hq : ∀ b' o, q = some ⟨b', o, none⟩ → b' ≠ b) :
    Calls Try.prog 109 #[.pointer (some ⟨b, 0, none⟩), .slice q xs.length d] w fun e w' => ∃ i : Nat, i < xs.length ∧ e = .returned (.int .i64 (xs.getD i 0)) ∧ Src w' b p c l (K + 2) ∧ w.grownBy w' (some b) := by
  have cp := pick_any (xs.length : Int) b p c l K w hK hl (by omega) h
  have Cp := Lib.hid cp; clear cp
  have H := Lib.hid h; clear h
  go_enter Try.func109, Try.ntmps109
  go_wp2_with fail
  with_reducible (refine Cp.out.mono ?_)
  rintro e w1 ⟨r, -, hr2, rfl, h', hg⟩
  have hlt : r < xs.length := by have := hr2 (by omega); omega
  obtain ⟨b', o, rfl, hb', hc⟩ := (hr.grown hg (fun b' o e h => by cases h; exact hq _ _ e rfl)).at hlt
  have a0 := hc r hlt
  rw [intAt] at a0
  have hr0 : (0 : Int) ≤ (r : Int) := Int.natCast_nonneg _
  have hr1 : (r : Int) < (xs.length : Int) := by omega
  obtain ⟨v, ev⟩ : ∃ v, xs.getD r 0 = v := ⟨_, rfl⟩
  rw [ev] at a0
  have H' := Lib.hid h'; clear h'
  have Hg := Lib.hid hg; clear hg
  have Ev := Lib.hid ev; clear ev
  clear hc hr Cp hr2 hq
  go_wp2
  go_ret
  exact ⟨r, hlt, by rw [Ev.out]; rfl, H'.out, Hg.out⟩
set_option maxHeartbeats 2000000 in
theorem drawSide_any (b : Nat) (p : Option Addr) (c : Nat) (l : List Int) (K : Nat) (w : World) (hK : K ≤ 999980) (hl : l.length ≤ 1048576) (h : Src w b p c l K) :
    Calls Try.prog 85 #[.pointer (some ⟨b, 0, none⟩)] w fun e w' => ∃ k : Nat, k ≤ 4 ∧ e = .returned (.int .i64 ((2 ^ k : Nat) : Int)) ∧ Src w' b p c l (K + 4) ∧ w.grownBy w' (some b) := by
  have cp := one_any 16 b p c l K w (by omega) hl (by omega) h
  have Cp := Lib.hid cp; clear cp
  have H := Lib.hid h; clear h
  go_enter Try.func85, Try.ntmps85
  go_wp2_with fail
  with_reducible (refine Cp.out.mono ?_)
  rintro e w1 ⟨r, rfl, h', hg⟩
  cases r
  · have hy := bl_alloc w1 (.cells #[.int .i64 1, .int .i64 2, .int .i64 4, .int .i64 4, .int .i64 8] 2)
    have B := Blk.new w1 #[.int .i64 1, .int .i64 2, .int .i64 4, .int .i64 4, .int .i64 8] 2
    have R : Rd (w1.alloc (.cells #[.int .i64 1, .int .i64 2, .int .i64 4, .int .i64 4, .int .i64 8] 2)) (some ⟨w1.heap.size, 0, none⟩) ([1, 2, 4, 4, 8] : List Int).length (intAt [1, 2, 4, 4, 8]) := by
      refine .inr ⟨_, _, rfl, fun i hi => ?_⟩
      have hi : i < 5 := hi
      rw [Nat.zero_add]
      have : i = 0 ∨ i = 1 ∨ i = 2 ∨ i = 3 ∨ i = 4 := by omega
      rcases this with rfl | rfl | rfl | rfl | rfl
      · exact B.cell 0 rfl
      · exact B.cell 1 rfl
      · exact B.cell 2 rfl
      · exact B.cell 3 rfl
      · exact B.cell 4 rfl
    have hlt := h'.lt
    have ca := among_any b p c l (K + 2) (some ⟨w1.heap.size, 0, none⟩) 5 [1, 2, 4, 4, 8] _ (by omega) hl (by decide) (by decide) (h'.bl hy) R (fun b' o e => by cases e; omega)
    have hg2 := grown_below hg hy hg.size
    have e5 : ([1, 2, 4, 4, 8] : List Int).length = 5 := rfl
    rw [e5] at ca
    have Ca := Lib.hid ca; clear ca
    have Hg2 := Lib.hid hg2; clear hg2
    have H' := Lib.hid h'; clear h'
    have E5 := Lib.hid e5; clear e5
    clear R B Cp H hy hg
    go_wp2_with fail
    with_reducible (refine Ca.out.mono ?_)
    rintro e w2 ⟨i, hi, rfl, h3, hg3⟩
    have hg4 := grown_trans Hg2.out hg3
    have hv : ∃ k : Nat, k ≤ 4 ∧ ([1, 2, 4, 4, 8] : List Int).getD i 0 = ((2 ^ k : Nat) : Int) := by
      have : i = 0 ∨ i = 1 ∨ i = 2 ∨ i = 3 ∨ i = 4 := by omega
      rcases this with rfl | rfl | rfl | rfl | rfl
      · exact ⟨0, by omega, rfl⟩
      · exact ⟨1, by omega, rfl⟩
      · exact ⟨2, by omega, rfl⟩
      · exact ⟨2, by omega, rfl⟩
      · exact ⟨3, by omega, rfl⟩
    obtain ⟨k, hk, hv⟩ := hv
    rw [hv]
    have h5 := h3.more (K' := K + 4) (by omega)
    obtain ⟨z, ez⟩ : ∃ z : Int, ((2 ^ k : Nat) : Int) = z := ⟨_, rfl⟩
    rw [ez]
    have H5 := Lib.hid h5; clear h5
    have Hg4 := Lib.hid hg4; clear hg4
    have Ez := Lib.hid ez; clear ez
    clear h3 hg3 Ca hv
    go_wp2
    go_ret
    exact ⟨k, hk, by rw [Ez.out]; rfl, H5.out, Hg4.out⟩
  · have h5 := h'.more (K' := K + 4) (by omega)
    have H5 := Lib.hid h5; clear h5
    have Hg := Lib.hid hg; clear hg
    clear h' Cp H
    go_wp2
    go_ret
    exact ⟨4, by omega, rfl, H5.out, Hg.out⟩
set_option maxRecDepth 100000 in
set_option maxHeartbeats 4000000 in
theorem drawSquare_any (b N : Nat) (p : Option Addr) (c : Nat) (l : List Int) (w : World) (hN1 : 1 ≤ N) (hN2 : N ≤ 16) (hl : l.length ≤ 1048576) (hsrc : Src w b p c l 10) :
    Calls Try.prog 86 #[.pointer (some ⟨b, 0, none⟩), .int .i64 N] w fun e w' => ∃ v f, e = .returned (.agg #[v]) ∧ OwnStrs w.heap.size w' v (render N N f) ∧ w.grownBy w' (some b) := by
  have hm := mul_256 hN2 hN2
  have hmk := run_make_row' (P := Try.prog) 62 4 (.bool false) 1 Try.underlying62 info_bool' rfl .i64 .i64 (N * N) (by omega) (by omega)
  rw [Int.natCast_mul] at hmk
  have d0 := DrRel.start (n := N * N) hsrc
  have hlt := hsrc.lt
  obtain ⟨M, eM⟩ : ∃ M, N * N = M := ⟨_, rfl⟩
  have cmk := fun (wr : World) (f : Nat → Bool) (h1 : Bools wr (w.heap.size + 1) (N * N) f) => l01Make_any (some ⟨w.heap.size + 1, 0, none⟩) N N (N * N) f wr hN1 hN2 hN2 h1.rd
  have hq1 : (N : Int) * (N : Int) ≤ 256 := by rw [← Int.natCast_mul]; exact Int.ofNat_le.2 hm
  have hq0 : (0 : Int) ≤ (N : Int) * (N : Int) := by rw [← Int.natCast_mul]; exact Int.natCast_nonneg _
  have hmm : ((N * N : Nat) : Int) = (N : Int) * (N : Int) := Int.natCast_mul _ _
  have hi3 := fun (x y : Nat) (hx : x < N) (hy : y < N) => at_int hx hy hN2 hN2
  have hlt3 := fun (x y : Nat) (hx : x < N) (hy : y < N) => at_lt hx hy
  rw [eM] at d0 cmk hmm hm hmk
  simp only [eM] at hi3 hlt3
  have cp0 := pick_any 5 b p c l 10 _ (by omega) hl (by omega) d0.src
  have D0 := Lib.hid d0; clear d0
  have EM := Lib.hid eM; clear eM
  have Hsrc := Lib.hid hsrc; clear hsrc
  have Cmk := Lib.hid cmk; clear cmk
  have Cp0 := Lib.hid cp0; clear cp0
  have Hmm := Lib.hid hmm; clear hmm
  have Hi3 := Lib.hid hi3; clear hi3
  have Hlt3 := Lib.hid hlt3; clear hlt3
  go_enter Try.func86, Try.ntmps86
  go_wp2_with fail
  clear hmk hq0 hq1
  with_reducible (refine Cp0.out.mono ?_)
  rintro e w1 ⟨r, -, hr5, rfl, S1, hg1⟩
  have d1 := D0.out.pick S1 hg1
  have hr4 : r ≤ 4 := by have := hr5 (by omega); omega
  clear S1 hg1 Cp0 D0 hr5 Hsrc
  have D1 := Lib.hid d1; clear d1
  go_wp2
  go_loopw [6] (fun v wr => ∃ k : Nat, k ≤ 4 ∧ v = .int .i64 k ∧ DrRel p c l b M w (12 + 10 * (4 - k)) wr) (fun v _ => (intOf v).toNat)
  case atStart => exact ⟨r, by omega, rfl, D1.out.more (by omega)⟩
  case round =>
    clear D1
    obtain ⟨k, hk, rfl, d⟩ := hrel
    by_cases hk0 : 0 < k
    · generalize eK : 12 + 10 * (4 - k) = K
      rw [eK] at d
      have hK : K ≤ 100 := by omega
      have EK := Lib.hid eK; clear eK
      go_upto_region 5 with (fail)
      go_cut [7] (fun s7 wx => ∃ z : Nat, 1 ≤ z ∧ z ≤ 8 ∧ s7 = .int .i64 z ∧ DrRel p c l b M w (K + 2) wx)
      case first =>
        have q1 := pick_any 4 b p c l _ wr (by omega) hl (by omega) d.src
        have D := Lib.hid d; clear d
        have Q1 := Lib.hid q1; clear q1
        go_wp2_with fail
        with_reducible (refine Q1.out.mono ?_)
        rintro e w2 ⟨s, -, hs, rfl, S2, hg2⟩
        have d2 := D.out.pick S2 hg2
        have hs4 : s = 0 ∨ s = 1 ∨ s = 2 ∨ s = 3 := by have := hs (by omega); omega
        clear S2 hg2 Q1 D hs
        have D2 := Lib.hid d2; clear d2
        rcases hs4 with rfl | rfl | rfl | rfl
        all_goals
          go_wp2_with fail
          go_meet
          first
            | exact ⟨1, by omega, by omega, rfl, D2.out⟩
            | exact ⟨2, by omega, by omega, rfl, D2.out⟩
            | exact ⟨4, by omega, by omega, rfl, D2.out⟩
            | exact ⟨8, by omega, by omega, rfl, D2.out⟩
      case rest =>
      obtain ⟨z, hz1, hz2, rfl, d2⟩ := hcut
      clear d
      have D2 := Lib.hid d2; clear d2
      go_upto_if 29 with (fail)
      go_cut [7] (fun s7 wx => ∃ z : Nat, 1 ≤ z ∧ z ≤ 16 ∧ s7 = .int .i64 z ∧ DrRel p c l b M w (K + 2) wx)
      case first =>
        rcases Nat.lt_or_ge N z with h | h
        · go_wp2_with fail
          go_meet
          exact ⟨N, by omega, by omega, rfl, D2.out⟩
        · go_wp2_with fail
          go_meet
          exact ⟨z, by omega, by omega, rfl, D2.out⟩
      case rest =>
      clear D2 hz1 hz2
      obtain ⟨z, hz1, hz2, rfl, d2⟩ := hcut
      have q1 := pick_any (N : Int) b p c l _ _ (by omega) hl (by omega) d2.src
      have D2 := Lib.hid d2; clear d2
      have Q1 := Lib.hid q1; clear q1
      go_wp2_with fail
      with_reducible (refine Q1.out.mono ?_)
      rintro e w3 ⟨x, -, hx, rfl, S3, hg3⟩
      have d3 := D2.out.pick S3 hg3
      have hx1 : x < N := by have := hx (by omega); omega
      clear S3 hg3 Q1 D2 hx
      have q2 := pick_any (N : Int) b p c l _ w3 (by omega) hl (by omega) d3.src
      have D3 := Lib.hid d3; clear d3
      have Q2 := Lib.hid q2; clear q2
      go_wp2_with fail
      with_reducible (refine Q2.out.mono ?_)
      rintro e w4 ⟨y, -, hy, rfl, S4, hg4⟩
      have d4 := D3.out.pick S4 hg4
      have hy1 : y < N := by have := hy (by omega); omega
      clear S4 hg4 Q2 D3 hy
      have q3 := one_any 3 b p c l _ w4 (by omega) hl (by omega) d4.src
      have D4 := Lib.hid d4; clear d4
      have Q3 := Lib.hid q3; clear q3
      go_wp2_with fail
      with_reducible (refine Q3.out.mono ?_)
      rintro e w5 ⟨bl, rfl, S5, hg5⟩
      obtain ⟨nb, rfl⟩ : ∃ nb, bl = !nb := ⟨!bl, by simp⟩
      have d5 := D4.out.pick S5 hg5
      clear S5 hg5 Q3 D4
      have q4 := one_any 2 b p c l _ w5 (by omega) hl (by omega) d5.src
      have D5 := Lib.hid d5; clear d5
      have Q4 := Lib.hid q4; clear q4
      go_wp2_with fail
      with_reducible (refine Q4.out.mono ?_)
      rintro e w6 ⟨v, rfl, S6, hg6⟩
      have d6 := (D5.out.pick S6 hg6).more (K' := 12 + 10 * (4 - (k - 1))) (by have := EK.out; omega)
      clear S6 hg6 Q4 D5
      have D6 := Lib.hid d6; clear d6
      go_upto_if 41 with (fail)
      go_cut [8, 9] (fun s8 s9 wx => ∃ x y : Nat, x < N ∧ y < N ∧ s8 = .int .i64 x ∧ s9 = .int .i64 y ∧ DrRel p c l b M w (12 + 10 * (4 - (k - 1))) wx)
      case first =>
        have hz0 : (z : Int) ≠ 0 := by omega
        obtain ⟨mx, emx⟩ : ∃ m, x % z = m := ⟨_, rfl⟩
        obtain ⟨my, emy⟩ : ∃ m, y % z = m := ⟨_, rfl⟩
        have hmx0 : (x : Int) % (z : Int) = (mx : Int) := by rw [← emx]; rfl
        have hmy0 : (y : Int) % (z : Int) = (my : Int) := by rw [← emy]; rfl
        have hmx2 : Int.tmod (x : Int) (z : Int) = (mx : Int) := by rw [← emx, Int.ofNat_tmod]
        have hmy2 : Int.tmod (y : Int) (z : Int) = (my : Int) := by rw [← emy, Int.ofNat_tmod]
        have hmx1 : mx ≤ x := by rw [← emx]; exact Nat.mod_le x z
        have hmy1 : my ≤ y := by rw [← emy]; exact Nat.mod_le y z
        clear emx emy
        cases v
        · go_wp2_with fail
          go_meet
          exact ⟨x, y, hx1, hy1, rfl, rfl, D6.out⟩
        · go_wp2_with fail
          go_meet
          exact ⟨x - mx, y - my, by omega, by omega, val_int (by omega), val_int (by omega), D6.out⟩
      case rest =>
      clear D6 hx1 hy1
      obtain ⟨x, y, hx1, hy1, rfl, rfl, d6⟩ := hcut
      obtain ⟨K2, eK2⟩ : ∃ K2, 12 + 10 * (4 - (k - 1)) = K2 := ⟨_, rfl⟩
      rw [eK2] at d6
      have EK2 := Lib.hid eK2; clear eK2
      go_wp2
      go_loopw [11] (fun v wr => ∃ j : Nat, j ≤ N ∧ v = .int .i64 j ∧ DrRel p c l b M w K2 wr) (fun v _ => N - (intOf v).toNat)
      case atStart => exact ⟨y, by omega, rfl, d6⟩
      case round =>
        clear d6
        obtain ⟨j, hj, rfl, d⟩ := hrel
        have hj0 : (0 : Int) ≤ (j : Int) := Int.natCast_nonneg _
        by_cases hjy : j < y + z ∧ j < N
        · obtain ⟨hj1, hj2⟩ := hjy
          have hj3 : (j : Int) < (N : Int) := by omega
          go_wp2
          go_loopw [12] (fun v wr => ∃ i : Nat, i ≤ N ∧ v = .int .i64 i ∧ DrRel p c l b M w K2 wr) (fun v _ => N - (intOf v).toNat)
          case atStart => exact ⟨x, by omega, rfl, d⟩
          case round =>
            clear d
            obtain ⟨i, hi, rfl, d⟩ := hrel
            have hi0 : (0 : Int) ≤ (i : Int) := Int.natCast_nonneg _
            by_cases hix : i < x + z ∧ i < N
            · obtain ⟨hi1, hi2⟩ := hix
              have hi4 : (i : Int) < (N : Int) := by omega
              obtain ⟨f, hf⟩ := d.row
              obtain ⟨q0, q1, q2, q3⟩ := Hi3.out i j hi2 hj2
              have hlt := Hlt3.out i j hi2 hj2
              have c1 := hf.cell hlt
              have f1 := hf.frozen (j * N + i)
              have d3 := d.set (j * N + i) nb
              have D3 := Lib.hid d3; clear d3
              have D := Lib.hid d; clear d
              clear hf hlt
              go_wp2
              go_roundw
              case rel => exact ⟨i + 1, by omega, by go_num, D3.out⟩
              case measure => simp [intOf]; omega
            · have hix2 : (¬ i < x + z) ∨ (i < x + z ∧ ¬ i < N) := by omega
              clear hix
              rcases hix2 with h | ⟨h, h'⟩
              all_goals
                go_wp2
                go_roundw
                case rel => exact ⟨j + 1, by omega, by go_num, d⟩
                case measure => simp [intOf]; omega
        · have hjy2 : (¬ j < y + z) ∨ (j < y + z ∧ ¬ j < N) := by omega
          clear hjy
          rcases hjy2 with h | ⟨h, h'⟩
          all_goals
            go_wp2
            go_roundw
            case rel => exact ⟨k - 1, by omega, by go_num, by rw [EK2.out]; exact d⟩
            case measure => simp [intOf]; omega
    · obtain rfl : k = 0 := by omega
      obtain ⟨f, hf⟩ := d.row
      have cm := Cmk.out wr f hf
      have hgr := d.gr
      have hbx := d.box
      have hlw := hbx.lt
      have Cm := Lib.hid cm; clear cm
      have D := Lib.hid d; clear d
      have Hf := Lib.hid hf; clear hf
      have Hgr := Lib.hid hgr; clear hgr
      go_wp2_with fail
      with_reducible (refine Cm.out.mono ?_)
      rintro e w2 ⟨v, rfl, O, hb⟩
      have B2 := hbx.bl hb
      have f0 := B2.frozen
      have f1 := B2.cell
      obtain ⟨p', c', rfl⟩ := O.form
      have e0 := (B2.set (.slice p' (render N N f).length c')).cell
      have O2 := (OwnStrs.set O (a := ⟨w.heap.size, 0, none⟩) hlw (.slice p' (render N N f).length c')).mono (show w.heap.size ≤ wr.heap.size by omega)
      have h1 := grown_below Hgr.out hb (by omega)
      have hg9 : w.grownBy (w2.setCell ⟨w.heap.size, 0, none⟩ (.slice p' (render N N f).length c')) (some b) :=
        ⟨h1.os, h1.tape, h1.output, by simpa using h1.size, fun k hk hn => (Below.heap_setCell _ _ _ _ (by simp; omega)).trans (h1.block k hk hn)⟩
      clear O hb B2 hbx h1 Cm Hf Hgr
      have Hg9 := Lib.hid hg9; clear hg9
      go_wp2
      exact bodyPost_ret (v := .agg #[.slice p' (render N N f).length c']) (by simp [results, Try.results86, go_sem, e0]) rfl ⟨_, f, rfl, O2, Hg9.out⟩
end Go.Proofs.Ytnenogpagkepfaa
