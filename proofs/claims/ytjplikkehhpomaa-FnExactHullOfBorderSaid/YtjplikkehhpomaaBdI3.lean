/- Contract of the program's test of a border. -/
import Derived.Test.YtjplikkehhpomaaBdI2
import Derived.Test.YtjplikkehhpomaaSeenKit
set_option linter.unusedVariables false
set_option linter.unusedSimpArgs false
namespace Go.Proofs.Ytjplikkehhpomaa
open Go.RowKit

theorem pos_small {x y : Int} (h : small (x, y)) (s : ByteArray) (k : Nat) : smallT (edge x y s k) := by
  obtain ⟨h1, h2⟩ := small_pos h s k
  have := way_in s k
  exact ⟨h1, h2, by simp only [edge]; omega, by simp only [edge]; omega⟩
/-- Where the program's test stands. -/
structure IsRel (x y : Int) (s : ByteArray) (mb : Nat) (q : Option Addr) (w wr : World) (k : Nat) : Prop where
  rd : Rd wr q (s.size * 3) (triAt (edges x y s s.size))
  ne : ∀ b o, q = some ⟨b, o, none⟩ → some b ≠ some mb
  seen : Seen wr mb k (fun e => ∃ j, j < k ∧ edge x y s j = e)
  since : Since w wr
  ge : w.heap.size ≤ mb
  ok : ∀ j < k, StepOk x y s j
theorem IsRel.bl {x y : Int} {s : ByteArray} {mb : Nat} {q : Option Addr} {w wr w' : World} {k : Nat} (r : IsRel x y s mb q w wr k) (hb : Below wr.heap.size wr w') : IsRel x y s mb q w w' k :=
  ⟨r.rd.bl hb, r.ne, r.seen.bl hb, r.since.bl hb, r.ge, r.ok⟩
theorem IsRel.cells {x y : Int} {s : ByteArray} {mb b o : Nat} {w wr : World} {k : Nat} (r : IsRel x y s mb (some ⟨b, o, none⟩) w wr k) {i : Nat} (hi : i < s.size) :
    CellAt wr b (o + i * 3) (.int .i64 (pos x y s i).1) ∧ CellAt wr b (o + i * 3 + 1) (.int .i64 (pos x y s i).2) ∧ CellAt wr b (o + i * 3 + 2) (.int .i64 (way s i)) := by
  obtain ⟨b', o', hq, h0, h1, h2⟩ := r.rd.tri hi
  cases hq
  rw [edges_at3 hi] at h0 h1 h2
  exact ⟨h0, h1, h2⟩
theorem Since.map {w a b : World} (h : Since w a) {g : Nat} (hg : a.grownBy b (some g)) (hw : w.heap.size ≤ g) : Since w b := h.grown hg hw
set_option maxRecDepth 100000 in
set_option maxHeartbeats 4000000 in
theorem isBorder_any (x y : Int) (s : ByteArray) (w : World) (hs : s.size ≤ maxLen) (hsm : small (x, y)) :
    Calls Try.prog 12 #[.agg #[.int .i64 x, .int .i64 y, .string s]] w fun e w' => e = .returned (.bool (bdB x y s)) ∧ Below w.heap.size w w' := by
  have B0 := Blk.new w #[.int .i64 x, .int .i64 y, .string s] 30
  have S0 := (Since.refl w).alloc (.cells #[.int .i64 x, .int .i64 y, .string s] 30)
  have k2 := B0.cell 2 rfl
  unfold maxLen at hs
  have c0 := fun w => in_any (s.size : Int) 4 600 w
  by_cases hl : s.size < 4
  · have hf : bdB x y s = false := bdB_false fun h => by have := h.lo; omega
    rw [hf]
    have hi : inB (s.size : Int) 4 600 = false := by simp [inB]; omega
    rw [hi] at c0
    have C0 := Lib.hid c0; clear c0
    have Hf := Lib.hid hf; clear hf
    have Hi := Lib.hid hi; clear hi
    go_enter Try.func12, Try.ntmps12
    go_wp2_with fail
    refine (C0.out _).mono ?_
    rintro e w1 ⟨rfl, rfl⟩
    go_wp2
    go_ret
    exact ⟨rfl, S0.below⟩
  by_cases hh : 600 < s.size
  · have hf : bdB x y s = false := bdB_false fun h => by have := h.hi; omega
    rw [hf]
    have hi : inB (s.size : Int) 4 600 = false := by simp [inB]; omega
    rw [hi] at c0
    have C0 := Lib.hid c0; clear c0
    have Hf := Lib.hid hf; clear hf
    have Hi := Lib.hid hi; clear hi
    go_enter Try.func12, Try.ntmps12
    go_wp2_with fail
    refine (C0.out _).mono ?_
    rintro e w1 ⟨rfl, rfl⟩
    go_wp2
    go_ret
    exact ⟨rfl, S0.below⟩
  have hl' : 4 ≤ s.size := by omega
  have hh' : s.size ≤ 600 := by omega
  clear hl hh hs
  have hi : inB (s.size : Int) 4 600 = true := by simp [inB]; omega
  rw [hi] at c0
  have hmm := @run_makeMap Try.prog
  by_cases hw : ∀ i < s.size, 0 ≤ way s i
  · have c1 := edges_ok w.heap.size x y s _ hh' hsm B0 hw
    obtain ⟨Z, hZ⟩ : ∃ Z, bdB x y s = Z := ⟨_, rfl⟩
    rw [hZ]
    obtain ⟨O, hO⟩ : ∃ O, decide (pos x y s s.size = (x, y)) = O := ⟨_, rfl⟩
    rw [hO] at c1
    have C0 := Lib.hid c0; clear c0
    have C1 := Lib.hid c1; clear c1
    have HZ := Lib.hid hZ; clear hZ
    have HO := Lib.hid hO; clear hO
    have Hi := Lib.hid hi; clear hi
    have Hw := Lib.hid hw; clear hw
    go_enter Try.func12, Try.ntmps12
    go_wp2_with fail
    refine (C0.out _).mono ?_
    rintro e w1 ⟨rfl, rfl⟩
    go_wp2_with fail
    refine C1.out.mono ?_
    rintro e w1 ⟨v, rfl, own, hb⟩
    replace S0 := S0.bl hb
    clear k2 B0 hb C1
    obtain ⟨q, c, rfl, ho⟩ := own
    rw [edges_len] at ho
    have hrd : Rd w1 q (s.size * 3) (triAt (edges x y s s.size)) := by
      have := OwnTris.rd (T := 56) (B := (w.alloc (.cells #[.int .i64 x, .int .i64 y, .string s] 30)).heap.size) (w := w1) (p := q) (n := s.size) (c := c) (l := edges x y s s.size) ⟨q, c, by rw [edges_len], by rw [edges_len]; exact ho⟩
      rwa [edges_len] at this
    have r0 : IsRel x y s w1.heap.size q w (w1.alloc (.map #[] 0)) 0 := by
      refine ⟨hrd.alloc _, fun b o e h => ?_, (Seen.made w1).congr (fun q => by simp), S0.alloc _, S0.size, fun j hj => absurd hj (Nat.not_lt_zero j)⟩
      have hr3 := hrd
      rcases hr3 with h0 | ⟨b', o', hq, hc⟩
      · omega
      · have : b' < w1.heap.size := World.block_lt_of_cell? _ _ (hc 0 (by omega))
        rw [hq] at e
        simp only [Option.some.injEq, Addr.mk.injEq] at e h
        omega
    rw [edges_len]
    obtain ⟨b, o, rfl, _⟩ := hrd.at (k := 0) (by omega)
    have R0 := Lib.hid r0; clear r0
    clear ho hrd S0
    go_wp2
    clear hmm
    generalize w1.heap.size = mb at *
    go_loopw [21] (fun i wr => ∃ k : Nat, k ≤ s.size ∧ i = .int .i64 k ∧ IsRel x y s mb (some ⟨b, o, none⟩) w wr k) (fun i _ => s.size - (intOf i).toNat)
    case atStart => exact ⟨0, Nat.zero_le _, rfl, R0.out⟩
    case round =>
      clear R0
      obtain ⟨k, hk, rfl, r⟩ := hrel
      by_cases hlt : k < s.size
      · obtain ⟨L, eL⟩ : ∃ L, lastOf s.size k = L := ⟨_, rfl⟩
        have hL : L < s.size := eL ▸ lastOf_lt (n := s.size) (i := k) (by omega)
        have hq : Int.tmod ((k : Int) + (s.size : Int) - 1) (s.size : Int) = (L : Int) := by
          rw [← eL, lastOf, show (k : Int) + (s.size : Int) - 1 = ((k + s.size - 1 : Nat) : Int) by omega, Int.ofNat_tmod]
        obtain ⟨a0, a1, a2⟩ := r.cells hlt
        obtain ⟨d0, d1, d2⟩ := r.cells hL
        have hv0 := Hw.out k hlt
        have hv3 := (way_in s k).2
        have hu0 := Hw.out L hL
        have hu3 := (way_in s L).2
        have he : edge x y s k = ((pos x y s k).1, (pos x y s k).2, way s k) := rfl
        have hes := pos_small hsm s k
        obtain ⟨P1, e1⟩ : ∃ P, (pos x y s k).1 = P := ⟨_, rfl⟩
        obtain ⟨P2, e2⟩ : ∃ P, (pos x y s k).2 = P := ⟨_, rfl⟩
        obtain ⟨V, ev⟩ : ∃ P, way s k = P := ⟨_, rfl⟩
        obtain ⟨Q1, f1⟩ : ∃ P, (pos x y s L).1 = P := ⟨_, rfl⟩
        obtain ⟨Q2, f2⟩ : ∃ P, (pos x y s L).2 = P := ⟨_, rfl⟩
        obtain ⟨U, fv⟩ : ∃ P, way s L = P := ⟨_, rfl⟩
        rw [e1] at a0
        rw [e2] at a1
        rw [ev] at a2 hv0 hv3
        rw [f1] at d0
        rw [f2] at d1
        rw [fv] at d2 hu0 hu3
        rw [e1, e2, ev] at he
        rw [he] at hes
        have hcorn : corner (pos x y s k) ↔ (inB P1 0 16 = true ∧ inB P2 0 16 = true) := by
          rw [← e1, ← e2]
          simp [corner, inB]
        have x7 := (Blk.new wr #[.int .i64 P1, .int .i64 P2, .int .i64 V] 56).alloc (.cells #[.int .i64 Q1, .int .i64 Q2, .int .i64 U] 56)
        have x8 := Blk.new (wr.alloc (.cells #[.int .i64 P1, .int .i64 P2, .int .i64 V] 56)) #[.int .i64 Q1, .int .i64 Q2, .int .i64 U] 56
        rw [World.size_alloc] at x8
        have r2 := (r.bl (bl_alloc wr (.cells #[.int .i64 P1, .int .i64 P2, .int .i64 V] 56))).bl (bl_alloc _ (.cells #[.int .i64 Q1, .int .i64 Q2, .int .i64 U] 56))
        replace d0 := d0.bl (bl_alloc wr (.cells #[.int .i64 P1, .int .i64 P2, .int .i64 V] 56))
        replace d1 := d1.bl (bl_alloc wr (.cells #[.int .i64 P1, .int .i64 P2, .int .i64 V] 56))
        replace d2 := d2.bl (bl_alloc wr (.cells #[.int .i64 P1, .int .i64 P2, .int .i64 V] 56))
        have A0 := a0.out
        have A1 := a1.out
        have A2 := a2.out
        have D0 := d0.out
        have D1 := d1.out
        have D2 := d2.out
        clear a0 a1 a2 d0 d1 d2
        have EL := Lib.hid eL; clear eL
        have R := Lib.hid r; clear r
        have R2 := Lib.hid r2; clear r2
        have X7 := Lib.hid x7; clear x7
        have X8 := Lib.hid x8; clear x8
        have Hcorn := Lib.hid hcorn; clear hcorn
        have He := Lib.hid he; clear he
        have Hes := Lib.hid hes; clear hes
        have E1 := Lib.hid e1; clear e1
        have E2 := Lib.hid e2; clear e2
        have Ev := Lib.hid ev; clear ev
        have F1 := Lib.hid f1; clear f1
        have F2 := Lib.hid f2; clear f2
        have Fv := Lib.hid fv; clear fv
        go_upto_region 9 with (fail)
        generalize (wr.alloc (.cells #[.int .i64 P1, .int .i64 P2, .int .i64 V] 56)).alloc (.cells #[.int .i64 Q1, .int .i64 Q2, .int .i64 U] 56) = wb at *
        generalize wr.heap.size = g7 at *
        clear A0 A1 A2 D0 D1 D2
        have A0 := X7.out.cell 0 rfl
        have A1 := X7.out.cell 1 rfl
        have A2 := X7.out.cell 2 rfl
        have D2 := X8.out.cell 2 rfl
        have cI1 := fun w => in_any P1 0 16 w
        have cI2 := fun w => in_any P2 0 16 w
        cases hi1 : inB P1 0 16
        · rw [hi1] at cI1
          have hf : Z = false := by
            rw [← HZ.out]
            exact bdB_false fun h => by
              have := (Hcorn.out.1 (h.step k hlt).at0).1
              rw [hi1] at this
              cases this
          have Hf := Lib.hid hf; clear hf
          have Hi1 := Lib.hid hi1; clear hi1
          have CI1 := Lib.hid cI1; clear cI1
          have CI2 := Lib.hid cI2; clear cI2
          go_wp2_with (first | (go_at_call 31; with_reducible (refine (CI1.out _).mono ?_; rintro e wx ⟨rfl, rfl⟩)) | fail)
          go_ret
          exact ⟨ret_bool Hf.out.symm, R2.out.since.below⟩
        rw [hi1] at cI1
        cases hi2 : inB P2 0 16
        · rw [hi2] at cI2
          have hf : Z = false := by
            rw [← HZ.out]
            exact bdB_false fun h => by
              have := (Hcorn.out.1 (h.step k hlt).at0).2
              rw [hi2] at this
              cases this
          have Hf := Lib.hid hf; clear hf
          have Hi1 := Lib.hid hi1; clear hi1
          have Hi2 := Lib.hid hi2; clear hi2
          have CI1 := Lib.hid cI1; clear cI1
          have CI2 := Lib.hid cI2; clear cI2
          go_wp2_with (first | (go_at_call 31; with_reducible (refine (CI1.out _).mono ?_; rintro e wx ⟨rfl, rfl⟩)) | (go_at_call 31; with_reducible (refine (CI2.out _).mono ?_; rintro e wx ⟨rfl, rfl⟩)) | fail)
          go_ret
          exact ⟨ret_bool Hf.out.symm, R2.out.since.below⟩
        rw [hi2] at cI2
        have hat0 := Hcorn.out.2 ⟨hi1, hi2⟩
        obtain ⟨cs, hcs, hrun⟩ := seen_run R2.out.seen 54 Try.underlying54 (P1, P2, V) Hes.out
        simp only [triVal] at hrun
        cases cs
        rotate_left
        · obtain ⟨j, hj, hje⟩ := hcs.1 rfl
          clear hcs
          have hf : Z = false := by
            rw [← HZ.out]
            exact bdB_false fun h => by
              exact (h.step k hlt).fresh j hj (hje.trans He.out.symm)
          have Hf := Lib.hid hf; clear hf
          have Hi1 := Lib.hid hi1; clear hi1
          have Hi2 := Lib.hid hi2; clear hi2
          have CI1 := Lib.hid cI1; clear cI1
          have CI2 := Lib.hid cI2; clear cI2
          have Hat0 := Lib.hid hat0; clear hat0
          have Hje := Lib.hid hje; clear hje
          go_wp2_with (first | (go_at_call 31; with_reducible (refine (CI1.out _).mono ?_; rintro e wx ⟨rfl, rfl⟩)) | (go_at_call 31; with_reducible (refine (CI2.out _).mono ?_; rintro e wx ⟨rfl, rfl⟩)) | fail)
          go_ret
          exact ⟨ret_bool Hf.out.symm, R2.out.since.below⟩
        have hfr : ∀ j < k, ¬ edge x y s j = edge x y s k := fun j hj e => by
          have := hcs.2 ⟨j, hj, e.trans He.out⟩
          cases this
        clear hcs
        have ht0 : Int.tmod (U + 2) 4 = (U + 2) % 4 := Int.tmod_eq_emod_of_nonneg (by omega)
        obtain ⟨t, et⟩ : ∃ t, Int.tmod (U + 2) 4 = t := ⟨_, rfl⟩
        rw [et] at ht0
        by_cases ht : t = V
        · have hte : (t == V) = true := by simp [ht]
          have hf : Z = false := by
            rw [← HZ.out]
            exact bdB_false fun h => by
              have := (h.step k hlt).turn
              rw [EL.out, Ev.out, Fv.out] at this
              omega
          have Hf := Lib.hid hf; clear hf
          have Hi1 := Lib.hid hi1; clear hi1
          have Hi2 := Lib.hid hi2; clear hi2
          have CI1 := Lib.hid cI1; clear cI1
          have CI2 := Lib.hid cI2; clear cI2
          have Hat0 := Lib.hid hat0; clear hat0
          have Hfr := Lib.hid hfr; clear hfr
          have Ht0 := Lib.hid ht0; clear ht0
          have Ht := Lib.hid ht; clear ht
          go_wp2_with (first | (go_at_call 31; with_reducible (refine (CI1.out _).mono ?_; rintro e wx ⟨rfl, rfl⟩)) | (go_at_call 31; with_reducible (refine (CI2.out _).mono ?_; rintro e wx ⟨rfl, rfl⟩)) | fail)
          go_ret
          exact ⟨ret_bool Hf.out.symm, R2.out.since.below⟩
        have hte : (t == V) = false := by simp [ht]
        have hok : StepOk x y s k := ⟨by rw [Ev.out]; exact hv0, hat0, by rw [EL.out, Ev.out, Fv.out]; omega, hfr⟩
        obtain ⟨w4, hrun2, hseen, hgr⟩ := see_run R2.out.seen 54 Try.underlying54 (by unfold maxLen; omega) (P1, P2, V) Hes.out
        simp only [triVal] at hrun2
        have hr3 : IsRel x y s mb (some ⟨b, o, none⟩) w w4 (k + 1) := by
          refine ⟨R2.out.rd.grown hgr R2.out.ne, R2.out.ne, hseen.congr fun e => ?_, R2.out.since.grown hgr R2.out.ge, R2.out.ge, fun j hj => ?_⟩
          · constructor
            · rintro (h | ⟨j, hj, h⟩)
              · exact ⟨k, by omega, by rw [He.out]; exact h.symm⟩
              · exact ⟨j, by omega, h⟩
            · rintro ⟨j, hj, h⟩
              rcases Nat.lt_or_ge j k with h2 | h2
              · exact .inr ⟨j, h2, h⟩
              · obtain rfl : j = k := by omega
                exact .inl (by rw [← h, He.out])
          · rcases Nat.lt_or_ge j k with h2 | h2
            · exact R2.out.ok j h2
            · obtain rfl : j = k := by omega
              exact hok
        have Hi1 := Lib.hid hi1; clear hi1
        have Hi2 := Lib.hid hi2; clear hi2
        have CI1 := Lib.hid cI1; clear cI1
        have CI2 := Lib.hid cI2; clear cI2
        have Hat0 := Lib.hid hat0; clear hat0
        have Hfr := Lib.hid hfr; clear hfr
        have Ht0 := Lib.hid ht0; clear ht0
        have Hok := Lib.hid hok; clear hok
        have Hseen := Lib.hid hseen; clear hseen
        have Hgr := Lib.hid hgr; clear hgr
        have Hr3 := Lib.hid hr3; clear hr3
        clear ht
        go_wp2_with (first | (go_at_call 31; with_reducible (refine (CI1.out _).mono ?_; rintro e wx ⟨rfl, rfl⟩)) | (go_at_call 31; with_reducible (refine (CI2.out _).mono ?_; rintro e wx ⟨rfl, rfl⟩)) | fail)
        go_roundw
        case rel => exact ⟨k + 1, by omega, by go_num, Hr3.out⟩
        case measure => simp [intOf]; omega
      · obtain rfl : k = s.size := by omega
        have hz : Z = O := by
          rw [← HZ.out, ← HO.out]
          by_cases h : pos x y s s.size = (x, y)
          · rw [decide_eq_true h]
            exact bdB_true ⟨hl', hh', r.ok, h⟩
          · rw [decide_eq_false h]
            exact bdB_false fun h2 => h h2.back
        have R := Lib.hid r; clear r
        have Hz := Lib.hid hz; clear hz
        go_wp2
        go_ret
        exact ⟨ret_bool Hz.out.symm, R.out.since.below⟩
  · have hf : bdB x y s = false := bdB_false fun h => hw fun i hi => (h.step i hi).letter
    rw [hf]
    have hb2 : ∃ m, m < s.size ∧ way s m < 0 := by
      apply Classical.byContradiction
      intro hn
      refine hw fun i hi => ?_
      by_cases hc : way s i < 0
      · exact absurd ⟨i, hi, hc⟩ hn
      · omega
    obtain ⟨m, hm, hmb⟩ := hb2
    have c1 := edges_bad w.heap.size x y s _ hh' hsm B0 m hm hmb
    have C0 := Lib.hid c0; clear c0
    have C1 := Lib.hid c1; clear c1
    have Hi := Lib.hid hi; clear hi
    have Hw := Lib.hid hw; clear hw
    have Hf := Lib.hid hf; clear hf
    have Hmb := Lib.hid hmb; clear hmb
    go_enter Try.func12, Try.ntmps12
    go_wp2_with fail
    refine (C0.out _).mono ?_
    rintro e w1 ⟨rfl, rfl⟩
    go_wp2_with fail
    refine C1.out.mono ?_
    rintro e w1 ⟨rfl, hb⟩
    replace S0 := (S0.bl hb).alloc (.map #[] 0)
    clear k2 B0 hb C1
    go_wp2
    clear hmm
    go_loopw [21] (fun i wr => i = .int .i64 0 ∧ Since w wr) (fun i _ => 0)
    case atStart => exact ⟨rfl, S0⟩
    case round =>
      clear S0
      obtain ⟨rfl, S1⟩ := hrel
      go_wp2
      go_ret
      exact ⟨rfl, S1.below⟩
end Go.Proofs.Ytjplikkehhpomaa
