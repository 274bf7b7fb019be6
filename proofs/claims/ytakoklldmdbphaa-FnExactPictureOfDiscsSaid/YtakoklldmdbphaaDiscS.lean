/- Contract of the reference's PictureOfDiscs. -/
import Derived.Test.YtakoklldmdbphaaDiscI
import Derived.Test.YtakoklldmdbphaaSpecMk
set_option linter.unusedVariables false
set_option linter.unusedSimpArgs false
namespace Go.Proofs.Ytakoklldmdbphaa
open Go.RowKit

/-- The pixels after j discs, and the first m pixels of the next one. -/
def pF (k : Int) (l : List (Int × Int × Int)) (W j m i : Nat) : Bool := (l.take j).any (fun d => holdsD k d ((i % W : Nat) : Int) ((i / W : Nat) : Int)) || (decide (i < m) && holdsD k (l.getD j (0, 0, 0)) ((i % W : Nat) : Int) ((i / W : Nat) : Int))
theorem pF_zero (k : Int) (l : List (Int × Int × Int)) (W i : Nat) : pF k l W 0 0 i = false := by simp [pF]
theorem pF_next {k : Int} {l : List (Int × Int × Int)} {W j m i : Nat} (hj : j < l.length) (hi : i < m) : pF k l W j m i = pF k l W (j + 1) 0 i := by
  rw [pF, pF, discs_take hj, decide_eq_true hi]
  simp [List.any_append]
theorem pF_end {k : Int} {l : List (Int × Int × Int)} {W i : Nat} : pF k l W l.length 0 i = dsF k l W i := by
  rw [pF, dsF, List.take_of_length_le (Nat.le_refl _)]
  simp
theorem pF_yes {k : Int} {l : List (Int × Int × Int)} {W j x y : Nat} (hx : x < W) (h : holdsD k (l.getD j (0, 0, 0)) x y = true) (i : Nat) : (if i = y * W + x then true else pF k l W j (y * W + x) i) = pF k l W j (y * W + x + 1) i := by
  by_cases e : i = y * W + x
  · subst e
    rw [if_pos rfl, pF, (at_mod hx).1, (at_mod hx).2, h]
    simp
  · rw [if_neg e, pF, pF]
    have : decide (i < y * W + x) = decide (i < y * W + x + 1) := by
      rw [decide_eq_decide]
      omega
    rw [this]
theorem pF_no {k : Int} {l : List (Int × Int × Int)} {W j x y : Nat} (hx : x < W) (h : holdsD k (l.getD j (0, 0, 0)) x y = false) (i : Nat) : pF k l W j (y * W + x) i = pF k l W j (y * W + x + 1) i := by
  by_cases e : i = y * W + x
  · subst e
    rw [pF, pF, (at_mod hx).1, (at_mod hx).2, h]
    simp
  · rw [pF, pF]
    have : decide (i < y * W + x) = decide (i < y * W + x + 1) := by
      rw [decide_eq_decide]
      omega
    rw [this]
set_option maxHeartbeats 2000000 in
theorem l06By_any (n : Int) (w : World) : Calls Try.prog 114 #[.int .i64 n] w fun e w' => e = .returned (.bool (inB n 0 512)) ∧ w = w' := by
  go_enter Try.func114, Try.ntmps114
  go_wp2_with (go_at_call 99; refine (l00In_any _ _ _ _).mono ?_; rintro e w' ⟨rfl, rfl⟩)
  go_ret
  exact ⟨rfl, rfl⟩
set_option maxRecDepth 100000 in
set_option maxHeartbeats 2000000 in
theorem l06Holds_any (k : Int) (a b r x y : Int) (w : World) (h1 : -1000 ≤ a ∧ a ≤ 1000) (h2 : -1000 ≤ b ∧ b ≤ 1000) (h3 : -1000 ≤ x ∧ x ≤ 1000) (h4 : -1000 ≤ y ∧ y ≤ 1000) :
    Calls Try.prog 137 #[.int .i64 k, .agg #[.int .i64 a, .int .i64 b, .int .i64 r], .int .i64 x, .int .i64 y] w fun e w' => e = .returned (.bool (holdsD k (a, b, r) x y)) ∧ Below w.heap.size w w' := by
  have A := Blk.new w #[.int .i64 a, .int .i64 b, .int .i64 r] 135
  have S := (Since.refl w).alloc (.cells #[.int .i64 a, .int .i64 b, .int .i64 r] 135)
  have a0 := A.cell 0 rfl
  have a1 := A.cell 1 rfl
  have a2 := A.cell 2 rfl
  have cf := fun w => (l06Far_any k a b x y w h1 h2 h3 h4).mono (fun e w' q => (⟨q.1, q.2.symm⟩ : e = .returned (.int .i64 (farZ k a b x y)) ∧ w' = w))
  have hv : holdsD k (a, b, r) x y = decide (farZ k a b x y < r) := rfl
  rw [hv]
  generalize farZ k a b x y = D at *
  have Cf := Lib.hid cf; clear cf
  have Hv := Lib.hid hv; clear hv
  clear A h1 h2 h3 h4
  go_enter Try.func137, Try.ntmps137
  go_wp2_with fail
  go_quiet ((go_at_call 100; with_reducible (exact Calls.quiet_of_same (Cf.out _))))
  go_wp2
  go_ret
  exact ⟨rfl, (S.bl (bl_drewN _ _)).below⟩
/-- While it paints. -/
structure PaRel (k : Int) (l : List (Int × Int × Int)) (W H : Nat) (w : World) (j m : Nat) (wr : World) : Prop where
  row : Bools wr (w.heap.size + 1) (W * H) (pF k l W j m)
  box : Box wr w.heap.size (.slice none 0 0) 30
  since : Since w wr
theorem PaRel.bl {k : Int} {l : List (Int × Int × Int)} {W H j m : Nat} {w wr w' : World} (h : PaRel k l W H w j m wr) (hb : Below wr.heap.size wr w') : PaRel k l W H w j m w' := ⟨h.row.bl hb, h.box.bl hb, h.since.bl hb⟩
theorem PaRel.yes {k : Int} {l : List (Int × Int × Int)} {W H j x y : Nat} {w wr : World} (h : PaRel k l W H w j (y * W + x) wr) (hx : x < W) (hd : holdsD k (l.getD j (0, 0, 0)) x y = true) :
    PaRel k l W H w j (y * W + x + 1) (wr.setCell ⟨w.heap.size + 1, y * W + x, none⟩ (.bool true)) :=
  ⟨(h.row.set (y * W + x) true).congr (fun i _ => pF_yes hx hd i), h.box.other (a := ⟨w.heap.size + 1, y * W + x, none⟩) (by simp) _, ⟨h.since.below.setCell (by simp) _⟩⟩
theorem PaRel.no {k : Int} {l : List (Int × Int × Int)} {W H j x y : Nat} {w wr : World} (h : PaRel k l W H w j (y * W + x) wr) (hx : x < W) (hd : holdsD k (l.getD j (0, 0, 0)) x y = false) : PaRel k l W H w j (y * W + x + 1) wr :=
  ⟨h.row.congr (fun i _ => pF_no hx hd i), h.box, h.since⟩
theorem PaRel.next {k : Int} {l : List (Int × Int × Int)} {W H j : Nat} {w wr : World} (h : PaRel k l W H w j (H * W) wr) (hj : j < l.length) : PaRel k l W H w (j + 1) 0 wr :=
  ⟨h.row.congr (fun i hi => pF_next hj (by rw [Nat.mul_comm]; exact hi)), h.box, h.since⟩
set_option maxRecDepth 100000 in
set_option maxHeartbeats 4000000 in
theorem l06Paint_any (W H : Nat) (k : Int) (p : Option Addr) (c : Nat) (l : List (Int × Int × Int)) (w : World) (hW1 : 1 ≤ W) (hW : W ≤ 16) (hH1 : 1 ≤ H) (hH : H ≤ 16) (hn : l.length ≤ 256) (hl : ∀ s ∈ l, discB W H s = true) (hr : Rd w p (l.length * 3) (discAt l)) :
    Calls Try.prog 115 #[.int .i64 W, .int .i64 H, .int .i64 k, .slice p l.length c] w fun e w' => ∃ v, e = .returned (.agg #[v]) ∧ OwnStrs w.heap.size w' v (render W H (dsF k l W)) ∧ Below w.heap.size w w' := by
  have hm := mul_256 hW hH
  have hmk := run_make_row' (P := Try.prog) 102 4 (.bool false) 1 Try.underlying102 info_bool' rfl .i64 .i64 (W * H) (by omega) (by omega)
  rw [Int.natCast_mul] at hmk
  have hq1 : (W : Int) * (H : Int) ≤ 256 := by rw [← Int.natCast_mul]; exact Int.ofNat_le.2 hm
  have hq0 : (0 : Int) ≤ (W : Int) * (H : Int) := by rw [← Int.natCast_mul]; exact Int.natCast_nonneg _
  have r0 : PaRel k l W H w 0 0 ((w.alloc (.cells #[.slice none 0 0] 30)).alloc (.cells (madeCells #[.bool false] (W * H)) 4)) := by
    refine ⟨?_, (Box.new w _ _).alloc _, ((Since.refl w).alloc _).alloc _⟩
    have h1 := World.rowIs_made (w.alloc (.cells #[.slice none 0 0] 30)) (.bool false) (W * H) 4
    rw [World.size_alloc] at h1
    exact ⟨_, _, Nat.le_refl _, h1, fun i hi => by rw [pF_zero]⟩
  have hmm : ((W * H : Nat) : Int) = (W : Int) * (H : Int) := Int.natCast_mul _ _
  have hi3 := fun (x y : Nat) (hx : x < W) (hy : y < H) => at_int hx hy hW hH
  have hlt3 := fun (x y : Nat) (hx : x < W) (hy : y < H) => at_lt hx hy
  obtain ⟨N, eN⟩ : ∃ N, W * H = N := ⟨_, rfl⟩
  rw [eN] at hmk hmm hm
  have r0' := r0
  rw [eN] at r0'
  simp only [eN] at hi3 hlt3
  have R0 := Lib.hid r0; clear r0
  have Hmm := Lib.hid hmm; clear hmm
  have Hl := Lib.hid hl; clear hl
  have EN := Lib.hid eN; clear eN
  have Hi3 := Lib.hid hi3; clear hi3
  have Hlt3 := Lib.hid hlt3; clear hlt3
  clear r0'
  go_enter Try.func115, Try.ntmps115
  go_wp2_with fail
  clear hmk hq0 hq1
  have r0 := R0.out
  rw [EN.out] at r0
  have hR0 : PaRel k l W H w 0 0 ((w.alloc (.cells #[.slice none 0 0] 30)).alloc (.cells (madeCells #[.bool false] N) 4)) := r0
  have HR0 := Lib.hid hR0; clear hR0
  clear r0 R0
  go_loopw [10] (fun i wr => ∃ j : Nat, j ≤ l.length ∧ i = .int .i64 j ∧ PaRel k l W H w j 0 wr) (fun i _ => l.length - (intOf i).toNat)
  case atStart => exact ⟨0, Nat.zero_le _, rfl, HR0.out⟩
  case round =>
    clear HR0
    obtain ⟨j, hj, rfl, r⟩ := hrel
    by_cases hjl : j < l.length
    · have hdm := discB_bd (Hl.out _ (getD_memD hjl)) (by omega) (by omega)
      have ej : l.getD j (0, 0, 0) = ((l.getD j (0, 0, 0)).1, (l.getD j (0, 0, 0)).2.1, (l.getD j (0, 0, 0)).2.2) := rfl
      have e0 := discAt_x l j
      have e1 := discAt_y l j
      have e2 := discAt_r l j
      generalize (l.getD j (0, 0, 0)).1 = da at *
      generalize (l.getD j (0, 0, 0)).2.1 = db at *
      generalize (l.getD j (0, 0, 0)).2.2 = dr at *
      obtain ⟨hd1, hd2, hd3, hd4⟩ := hdm
      have hj0 : (0 : Int) ≤ (j : Int) := Int.natCast_nonneg _
      have hj1 : (j : Int) < (l.length : Int) := by omega
      have E0 := Lib.hid e0; clear e0
      have E1 := Lib.hid e1; clear e1
      have E2 := Lib.hid e2; clear e2
      have Ej := Lib.hid ej; clear ej
      go_wp2
      go_loopw [11] (fun i wr => ∃ y : Nat, y ≤ H ∧ i = .int .i64 y ∧ PaRel k l W H w j (y * W) wr) (fun i _ => H - (intOf i).toNat)
      case atStart => exact ⟨0, Nat.zero_le _, rfl, by rw [Nat.zero_mul]; exact r⟩
      case round =>
        clear r
        obtain ⟨y, hy, rfl, r⟩ := hrel
        by_cases hyH : y < H
        · have hy0 : (0 : Int) ≤ (y : Int) := Int.natCast_nonneg _
          have hy1 : (y : Int) < (H : Int) := by omega
          go_wp2
          go_loopw [12] (fun i wr => ∃ x : Nat, x ≤ W ∧ i = .int .i64 x ∧ PaRel k l W H w j (y * W + x) wr) (fun i _ => W - (intOf i).toNat)
          case atStart => exact ⟨0, Nat.zero_le _, rfl, r⟩
          case round =>
            clear r
            obtain ⟨x, hx, rfl, r⟩ := hrel
            by_cases hxW : x < W
            · obtain ⟨b, o, rfl, hb, hc⟩ := (hr.bl r.since.below).at (k := j * 3) (by omega)
              have a0 := hc (j * 3) (by omega)
              have a1 := hc (j * 3 + 1) (by omega)
              have a2 := hc (j * 3 + 2) (by omega)
              rw [E0.out] at a0
              rw [E1.out, ← Nat.add_assoc] at a1
              rw [E2.out, ← Nat.add_assoc] at a2
              have ch := l06Holds_any k da db dr x y wr hd1 hd2 (by omega) (by omega)
              obtain ⟨q0, q1, q2, q3⟩ := Hi3.out x y hxW hyH
              have hlt := Hlt3.out x y hxW hyH
              have hno := r.no hxW
              rw [Ej.out] at hno
              have hyes := fun w' (r : PaRel k l W H w j (y * W + x) w') => r.yes hxW
              rw [Ej.out] at hyes
              have hcell := fun w' (r : PaRel k l W H w j (y * W + x) w') => (⟨r.row.cell (i := y * W + x) (by rw [EN.out]; exact hlt), r.row.frozen (y * W + x)⟩ : _ ∧ _)
              have hx0 : (0 : Int) ≤ (x : Int) := Int.natCast_nonneg _
              have hbl := fun w' hb => r.bl (w' := w') hb
              obtain ⟨m, em⟩ : ∃ m, y * W + x = m := ⟨_, rfl⟩
              simp only [em] at hno hyes hcell hbl hlt q3
              have em2 : y * W + (x + 1) = m + 1 := by omega
              have hyes2 := fun w' r h => (show PaRel k l W H w j (y * W + (x + 1)) _ from by rw [em2]; exact hyes w' r h)
              have hno2 : ∀ w', PaRel k l W H w j m w' → holdsD k (da, db, dr) x y = false → PaRel k l W H w j (y * W + (x + 1)) w' := fun w' r h => by
                have r2 : PaRel k l W H w j (y * W + x) w' := by rw [em]; exact r
                have := r2.no hxW
                rw [Ej.out] at this
                exact this h
              clear hc hno hyes em2
              cases hh : holdsD k (da, db, dr) x y
              · rw [hh] at ch
                have Ch := Lib.hid ch; clear ch
                have Hh := Lib.hid hh; clear hh
                have Hbl := Lib.hid hbl; clear hbl
                have Hcell := Lib.hid hcell; clear hcell
                have Hyes2 := Lib.hid hyes2; clear hyes2
                have Hno2 := Lib.hid hno2; clear hno2
                have Em := Lib.hid em; clear em
                have Q3 := Lib.hid q3; clear q3
                clear r
                go_wp2_with fail
                with_reducible (refine Ch.out.mono ?_)
                rintro e w1 ⟨rfl, hb1⟩
                have r1 := Hno2.out w1 (Hbl.out w1 hb1) Hh.out
                clear hb1 Ch a0 a1 a2
                have R1 := Lib.hid r1; clear r1
                go_wp2
                go_roundw
                case rel => exact ⟨x + 1, by omega, by go_num, R1.out⟩
                case measure => simp [intOf]; omega
              · rw [hh] at ch
                have Ch := Lib.hid ch; clear ch
                have Hh := Lib.hid hh; clear hh
                have Hbl := Lib.hid hbl; clear hbl
                have Hcell := Lib.hid hcell; clear hcell
                have Hyes2 := Lib.hid hyes2; clear hyes2
                have Hno2 := Lib.hid hno2; clear hno2
                have Em := Lib.hid em; clear em
                clear r
                go_wp2_with fail
                with_reducible (refine Ch.out.mono ?_)
                rintro e w1 ⟨rfl, hb1⟩
                have r0 := Hbl.out w1 hb1
                obtain ⟨f0, f1⟩ := Hcell.out w1 r0
                have r1 := Hyes2.out w1 r0 Hh.out
                clear hb1 Ch a0 a1 a2 r0
                have R1 := Lib.hid r1; clear r1
                go_wp2
                go_roundw
                case rel => exact ⟨x + 1, by omega, by go_num, R1.out⟩
                case measure => simp [intOf]; omega
            · obtain rfl : x = W := by omega
              have r1 : PaRel k l x H w j ((y + 1) * x) wr := by rw [Nat.add_mul, Nat.one_mul]; exact r
              clear r
              have R1 := Lib.hid r1; clear r1
              go_wp2
              go_roundw
              case rel => exact ⟨y + 1, by omega, by go_num, R1.out⟩
              case measure => simp [intOf]; omega
        · obtain rfl : y = H := by omega
          have r1 := r.next hjl
          clear r
          have R1 := Lib.hid r1; clear r1
          go_wp2
          go_roundw
          case rel => exact ⟨j + 1, by omega, by go_num, R1.out⟩
          case measure => simp [intOf]; omega
    · obtain rfl : j = l.length := by omega
      have hrow := r.row.congr (f' := dsF k l W) (fun i _ => pF_end)
      have cm := l01Make_any (some ⟨w.heap.size + 1, 0, none⟩) W H N (dsF k l W) wr hW1 hW hH hrow.rd
      rw [EN.out] at cm
      have B := r.box
      have S := r.since
      have hlt := B.lt
      have hrl := render_len W H (dsF k l W)
      obtain ⟨rr, er⟩ : ∃ rr, render W H (dsF k l W) = rr := ⟨_, rfl⟩
      rw [er] at cm hrl
      have Cm := Lib.hid cm; clear cm
      have Er := Lib.hid er; clear er
      have Hrl := Lib.hid hrl; clear hrl
      clear hrow r
      go_wp2_with fail
      with_reducible (refine Cm.out.mono ?_)
      rintro e w3 ⟨v, rfl, O, hb⟩
      have hs := S.size
      replace S := S.bl hb
      replace B := B.bl hb
      clear hb Cm
      obtain ⟨q, d, rfl⟩ := O.form
      have b0 := B.cell
      have b1 := B.frozen
      have b2 := (B.set (.slice q rr.length d)).cell
      have o1 : OwnStrs w.heap.size (w3.setCell ⟨w.heap.size, 0, none⟩ (.slice q rr.length d)) (.slice q rr.length d) rr := by
        obtain ⟨p', c', hq, ho⟩ := O
        exact ⟨p', c', hq, own_mono (own_set ho (by simpa using hlt) _) (by omega)⟩
      have s1 : Below w.heap.size w (w3.setCell ⟨w.heap.size, 0, none⟩ (.slice q rr.length d)) := S.below.setCell (by simp) _
      have O1 := Lib.hid o1; clear o1
      have S1 := Lib.hid s1; clear s1
      clear O B S
      go_wp2
      exact bodyPost_ret (v := .agg #[.slice q rr.length d]) (by simp [results, Try.results115, go_sem, b2]) rfl ⟨_, rfl, by rw [Er.out]; exact O1.out, S1.out⟩
set_option maxRecDepth 100000 in
set_option maxHeartbeats 4000000 in
theorem sPictureOfDiscs_any (W H k : Int) (p : Option Addr) (c : Nat) (l : List (Int × Int × Int)) (w : World) (hn : l.length ≤ 1048576) (hWb : -9223372036854775808 ≤ W ∧ W ≤ 9223372036854775807) (hHb : -9223372036854775808 ≤ H ∧ H ≤ 9223372036854775807) (hr : Rd w p (l.length * 3) (discAt l)) :
    Calls Try.prog 56 #[.int .i64 W, .int .i64 H, .int .i64 k, .slice p l.length c] w fun e w' => ∃ v, e = .returned (.tuple #[.agg #[v], .bool (dsOk W H k l)]) ∧ OwnStrs w.heap.size w' v (dsP W H k l) ∧ Below w.heap.size w w' := by
  have hy1 := bl_alloc w (.cells #[.slice none 0 0] 30)
  have B := Box.new w (.slice none 0 0) 30
  have R := hr.bl hy1
  have S := (Since.refl w).bl hy1
  have b0 := B.cell
  have b1 := B.frozen
  have b2 := (B.set (.slice none 0 0)).cell
  have s0 := fun w' (h : Since w w') => Since.below ⟨h.below.setCell (p := ⟨w.heap.size, 0, none⟩) (by simp) (.slice none 0 0)⟩
  have hv0 : dsOk W H k l = false → dsP W H k l = [] := fun h => by rw [dsP, h]; rfl
  have hdef : dsOk W H k l = (sizeOkB W H && inB k 0 2 && decide (l.length ≤ 256) && l.all (discB W H)) := rfl
  have hsz : sizeOkB W H = (inB W 1 16 && inB H 1 16) := rfl
  have c1 := fun w => l01Side_any W w
  have c2 := fun w => l01Side_any H w
  have ck := fun w => l06Kind_any k w
  cases h1 : inB W 1 16
  · have hv : dsOk W H k l = false := by rw [hdef, hsz, h1]; rfl
    have hv2 := hv0 hv
    simp only [h1] at c1
    have C1 := Lib.hid c1; clear c1
    have C2 := Lib.hid c2; clear c2
    have Ck := Lib.hid ck; clear ck
    have H1 := Lib.hid h1; clear h1
    have Hv := Lib.hid hv; clear hv
    have Hv2 := Lib.hid hv2; clear hv2
    have S0 := Lib.hid s0; clear s0
    clear hdef hv0 hr hy1 R hsz
    go_enter Try.func56, Try.ntmps56
    go_wp2_with fail
    with_reducible (refine (C1.out _).mono ?_)
    rintro e w1 ⟨rfl, rfl⟩
    go_wp2
    exact bodyPost_ret (v := .tuple #[.agg #[.slice none 0 0], .bool false]) (by simp [results, Try.results56, go_sem, b2]) rfl ⟨_, by rw [Hv.out], by rw [Hv2.out]; exact OwnStrs.nil _ _, by first | exact S0.out _ S | exact S.below⟩
  · simp only [h1] at c1
    cases h2 : inB H 1 16
    · have hv : dsOk W H k l = false := by rw [hdef, hsz, h2]; simp
      have hv2 := hv0 hv
      simp only [h2] at c2
      have C1 := Lib.hid c1; clear c1
      have C2 := Lib.hid c2; clear c2
      have Ck := Lib.hid ck; clear ck
      have H1 := Lib.hid h1; clear h1
      have H2 := Lib.hid h2; clear h2
      have Hv := Lib.hid hv; clear hv
      have Hv2 := Lib.hid hv2; clear hv2
      have S0 := Lib.hid s0; clear s0
      clear hdef hv0 hr hy1 R hsz
      go_enter Try.func56, Try.ntmps56
      go_wp2_with fail
      with_reducible (refine (C1.out _).mono ?_)
      rintro e w1 ⟨rfl, rfl⟩
      go_wp2_with fail
      with_reducible (refine (C2.out _).mono ?_)
      rintro e w1 ⟨rfl, rfl⟩
      go_wp2
      exact bodyPost_ret (v := .tuple #[.agg #[.slice none 0 0], .bool false]) (by simp [results, Try.results56, go_sem, b2]) rfl ⟨_, by rw [Hv.out], by rw [Hv2.out]; exact OwnStrs.nil _ _, by first | exact S0.out _ S | exact S.below⟩
    · simp only [h2] at c2
      cases h3 : inB k 0 2
      · have hv : dsOk W H k l = false := by rw [hdef, h3]; simp
        have hv2 := hv0 hv
        simp only [h3] at ck
        have C1 := Lib.hid c1; clear c1
        have C2 := Lib.hid c2; clear c2
        have Ck := Lib.hid ck; clear ck
        have H1 := Lib.hid h1; clear h1
        have H2 := Lib.hid h2; clear h2
        have H3 := Lib.hid h3; clear h3
        have Hv := Lib.hid hv; clear hv
        have Hv2 := Lib.hid hv2; clear hv2
        have S0 := Lib.hid s0; clear s0
        clear hdef hv0 hr hy1 R hsz
        go_enter Try.func56, Try.ntmps56
        go_wp2_with fail
        with_reducible (refine (C1.out _).mono ?_)
        rintro e w1 ⟨rfl, rfl⟩
        go_wp2_with fail
        with_reducible (refine (C2.out _).mono ?_)
        rintro e w1 ⟨rfl, rfl⟩
        go_wp2_with fail
        with_reducible (refine (Ck.out _).mono ?_)
        rintro e w1 ⟨rfl, rfl⟩
        go_wp2
        exact bodyPost_ret (v := .tuple #[.agg #[.slice none 0 0], .bool false]) (by simp [results, Try.results56, go_sem, b2]) rfl ⟨_, by rw [Hv.out], by rw [Hv2.out]; exact OwnStrs.nil _ _, by first | exact S0.out _ S | exact S.below⟩
      · simp only [h3] at ck
        by_cases h4 : l.length ≤ 256
        · have hdef2 : dsOk W H k l = l.all (discB W H) := by rw [hdef, hsz, h1, h2, h3, decide_eq_true h4]; rfl
          have e1 := inB_true h1
          have e2 := inB_true h2
          have hv1 : dsOk W H k l = true → dsP W H k l = render W.toNat H.toNat (dsF k l W.toNat) := fun h => by rw [dsP, h]; rfl
          obtain ⟨Wn, rfl⟩ := Int.eq_ofNat_of_zero_le (show 0 ≤ W by omega)
          obtain ⟨Hn, rfl⟩ := Int.eq_ofNat_of_zero_le (show 0 ≤ H by omega)
          rw [Int.toNat_natCast, Int.toNat_natCast] at hv1
          have cp := fun w hl h => l06Paint_any Wn Hn k p c l w (by omega) (by omega) (by omega) (by omega) h4 hl h
          have ci := fun a m M w => l00In_any a m M w
          have cy := fun n w => l06By_any n w
          have C1 := Lib.hid c1; clear c1
          have C2 := Lib.hid c2; clear c2
          have Ck := Lib.hid ck; clear ck
          have H1 := Lib.hid h1; clear h1
          have H2 := Lib.hid h2; clear h2
          have H3 := Lib.hid h3; clear h3
          have Hv1 := Lib.hid hv1; clear hv1
          have Hv0 := Lib.hid hv0; clear hv0
          have S0 := Lib.hid s0; clear s0
          have Hdef2 := Lib.hid hdef2; clear hdef2
          have Hdef := Lib.hid hdef; clear hdef
          have Cp := Lib.hid cp; clear cp
          have Ci := Lib.hid ci; clear ci
          have Cy := Lib.hid cy; clear cy
          have Hsz := Lib.hid hsz; clear hsz
          clear hr hy1 b0 b1 b2
          go_enter Try.func56, Try.ntmps56
          go_wp2_with fail
          with_reducible (refine (C1.out _).mono ?_)
          rintro e w1 ⟨rfl, rfl⟩
          go_wp2_with fail
          with_reducible (refine (C2.out _).mono ?_)
          rintro e w1 ⟨rfl, rfl⟩
          go_wp2_with fail
          with_reducible (refine (Ck.out _).mono ?_)
          rintro e w1 ⟨rfl, rfl⟩
          go_wp2
          have T0 := S
          obtain ⟨wa, ewa⟩ : ∃ wa, w.alloc (.cells #[.slice none 0 0] 30) = wa := ⟨_, rfl⟩
          simp only [ewa] at *
          go_loopw [10] (fun i wr => ∃ j : Nat, j ≤ l.length ∧ i = .int .i64 j ∧ (l.take j).all (discB Wn Hn) = true ∧ wr = wa) (fun i _ => l.length - (intOf i).toNat)
          case atStart => exact ⟨0, Nat.zero_le _, rfl, by simp, rfl⟩
          case round =>
            obtain ⟨j, hj, rfl, hall, rfl⟩ := hrel
            by_cases hlt : j < l.length
            · obtain ⟨b, o, rfl, hb, hc⟩ := R.at (k := j * 3) (by omega)
              have a0 := hc (j * 3) (by omega)
              have a1 := hc (j * 3 + 1) (by omega)
              have a2 := hc (j * 3 + 2) (by omega)
              rw [discAt_x] at a0
              rw [discAt_y, ← Nat.add_assoc] at a1
              rw [discAt_r, ← Nat.add_assoc] at a2
              have hj0 : (0 : Int) ≤ (j : Int) := Int.natCast_nonneg _
              have hj1 : (j : Int) < (l.length : Int) := by omega
              have hsu : (l.take (j + 1)).all (discB Wn Hn) = ((l.take j).all (discB Wn Hn) && discB Wn Hn (l.getD j (0, 0, 0))) := by rw [discs_take hlt]; simp [List.all_append]
              rw [hall, Bool.true_and] at hsu
              have hno : discB Wn Hn (l.getD j (0, 0, 0)) = false → l.all (discB Wn Hn) = false := fun h => by
                rw [List.all_eq_false]
                exact ⟨_, getD_memD hlt, by rw [h]; simp⟩
              have hd : discB Wn Hn (l.getD j (0, 0, 0)) = (inB (l.getD j (0, 0, 0)).1 0 ((Wn : Int) - 1) && inB (l.getD j (0, 0, 0)).2.1 0 ((Hn : Int) - 1) && inB (l.getD j (0, 0, 0)).2.2 1 512) := rfl
              rw [hd] at hsu hno
              clear hd hc
              generalize (l.getD j (0, 0, 0)).1 = u at *
              generalize (l.getD j (0, 0, 0)).2.1 = v at *
              generalize (l.getD j (0, 0, 0)).2.2 = r at *
              have b0 := B.cell
              have b1 := B.frozen
              have b2 := (B.set (.slice none 0 0)).cell
              have ca := fun w => Ci.out u 0 ((Wn : Int) - 1) w
              have cb := fun w => Ci.out v 0 ((Hn : Int) - 1) w
              have cr := fun w => Cy.out r w
              have hbad : dsOk Wn Hn k l = false → dsP Wn Hn k l = [] := Hv0.out
              have hset : (inB u 0 ((Wn : Int) - 1) && inB v 0 ((Hn : Int) - 1) && inB r 1 512) = false → dsOk Wn Hn k l = false := fun h => by rw [Hdef2.out]; exact hno h
              clear hno
              cases e3 : inB u 0 ((Wn : Int) - 1)
              · have hv : dsOk Wn Hn k l = false := hset (by rw [e3]; rfl)
                have hv2 := hbad hv
                simp only [e3] at ca
                have Ca := Lib.hid ca; clear ca
                have Cb := Lib.hid cb; clear cb
                have Cr := Lib.hid cr; clear cr
                have E3 := Lib.hid e3; clear e3
                have Hv := Lib.hid hv; clear hv
                have Hv2 := Lib.hid hv2; clear hv2
                have Hsu := Lib.hid hsu; clear hsu
                have Hall := Lib.hid hall; clear hall
                clear hbad hset
                go_wp2_with fail
                with_reducible (refine (Ca.out _).mono ?_)
                rintro e w2 ⟨rfl, rfl⟩
                go_wp2
                exact bodyPost_ret (v := .tuple #[.agg #[.slice none 0 0], .bool false]) (by simp [results, Try.results56, go_sem, b2]) rfl ⟨_, by rw [Hv.out], by rw [Hv2.out]; exact OwnStrs.nil _ _, by first | exact S0.out _ S | exact S.below⟩
              · simp only [e3] at ca
                cases e4 : inB v 0 ((Hn : Int) - 1)
                · have hv : dsOk Wn Hn k l = false := hset (by rw [e4]; simp)
                  have hv2 := hbad hv
                  simp only [e4] at cb
                  have Ca := Lib.hid ca; clear ca
                  have Cb := Lib.hid cb; clear cb
                  have Cr := Lib.hid cr; clear cr
                  have E3 := Lib.hid e3; clear e3
                  have E4 := Lib.hid e4; clear e4
                  have Hv := Lib.hid hv; clear hv
                  have Hv2 := Lib.hid hv2; clear hv2
                  have Hsu := Lib.hid hsu; clear hsu
                  have Hall := Lib.hid hall; clear hall
                  clear hbad hset
                  go_wp2_with fail
                  with_reducible (refine (Ca.out _).mono ?_)
                  rintro e w2 ⟨rfl, rfl⟩
                  go_wp2_with fail
                  with_reducible (refine (Cb.out _).mono ?_)
                  rintro e w2 ⟨rfl, rfl⟩
                  go_wp2
                  exact bodyPost_ret (v := .tuple #[.agg #[.slice none 0 0], .bool false]) (by simp [results, Try.results56, go_sem, b2]) rfl ⟨_, by rw [Hv.out], by rw [Hv2.out]; exact OwnStrs.nil _ _, by first | exact S0.out _ S | exact S.below⟩
                · simp only [e4] at cb
                  cases e5 : inB r 0 512
                  · have e6 : inB r 1 512 = false := by
                      cases h : inB r 1 512
                      · rfl
                      · have g1 := inB_true h
                        rw [show inB r 0 512 = true by simp only [inB, Bool.and_eq_true, decide_eq_true_eq]; omega] at e5
                        cases e5
                    have hv : dsOk Wn Hn k l = false := hset (by rw [e6]; simp)
                    have hv2 := hbad hv
                    simp only [e5] at cr
                    have Ca := Lib.hid ca; clear ca
                    have Cb := Lib.hid cb; clear cb
                    have Cr := Lib.hid cr; clear cr
                    have E3 := Lib.hid e3; clear e3
                    have E4 := Lib.hid e4; clear e4
                    have E5 := Lib.hid e5; clear e5
                    have E6 := Lib.hid e6; clear e6
                    have Hv := Lib.hid hv; clear hv
                    have Hv2 := Lib.hid hv2; clear hv2
                    have Hsu := Lib.hid hsu; clear hsu
                    have Hall := Lib.hid hall; clear hall
                    clear hbad hset
                    go_wp2_with fail
                    with_reducible (refine (Ca.out _).mono ?_)
                    rintro e w2 ⟨rfl, rfl⟩
                    go_wp2_with fail
                    with_reducible (refine (Cb.out _).mono ?_)
                    rintro e w2 ⟨rfl, rfl⟩
                    go_wp2_with fail
                    with_reducible (refine (Cr.out _).mono ?_)
                    rintro e w2 ⟨rfl, rfl⟩
                    go_wp2
                    exact bodyPost_ret (v := .tuple #[.agg #[.slice none 0 0], .bool false]) (by simp [results, Try.results56, go_sem, b2]) rfl ⟨_, by rw [Hv.out], by rw [Hv2.out]; exact OwnStrs.nil _ _, by first | exact S0.out _ S | exact S.below⟩
                  · have g1 := inB_true e5
                    simp only [e5] at cr
                    by_cases h0 : r = 0
                    · have e6 : inB r 1 512 = false := by
                        cases h : inB r 1 512
                        · rfl
                        · have g1 := inB_true h
                          omega
                      have hv : dsOk Wn Hn k l = false := hset (by rw [e6]; simp)
                      have hv2 := hbad hv
                      subst h0
                      have Ca := Lib.hid ca; clear ca
                      have Cb := Lib.hid cb; clear cb
                      have Cr := Lib.hid cr; clear cr
                      have E3 := Lib.hid e3; clear e3
                      have E4 := Lib.hid e4; clear e4
                      have E5 := Lib.hid e5; clear e5
                      have E6 := Lib.hid e6; clear e6
                      have Hv := Lib.hid hv; clear hv
                      have Hv2 := Lib.hid hv2; clear hv2
                      have Hsu := Lib.hid hsu; clear hsu
                      have Hall := Lib.hid hall; clear hall
                      clear hbad hset
                      go_wp2_with fail
                      with_reducible (refine (Ca.out _).mono ?_)
                      rintro e w2 ⟨rfl, rfl⟩
                      go_wp2_with fail
                      with_reducible (refine (Cb.out _).mono ?_)
                      rintro e w2 ⟨rfl, rfl⟩
                      go_wp2_with fail
                      with_reducible (refine (Cr.out _).mono ?_)
                      rintro e w2 ⟨rfl, rfl⟩
                      go_wp2
                      exact bodyPost_ret (v := .tuple #[.agg #[.slice none 0 0], .bool false]) (by simp [results, Try.results56, go_sem, b2]) rfl ⟨_, by rw [Hv.out], by rw [Hv2.out]; exact OwnStrs.nil _ _, by first | exact S0.out _ S | exact S.below⟩
                    · have e6 : inB r 1 512 = true := by simp only [inB, Bool.and_eq_true, decide_eq_true_eq]; omega
                      have hr0 : (r == 0) = false := by rw [beq_eq_false_iff_ne]; exact h0
                      rw [e3, e4, e6] at hsu
                      have Ca := Lib.hid ca; clear ca
                      have Cb := Lib.hid cb; clear cb
                      have Cr := Lib.hid cr; clear cr
                      have E3 := Lib.hid e3; clear e3
                      have E4 := Lib.hid e4; clear e4
                      have E5 := Lib.hid e5; clear e5
                      have E6 := Lib.hid e6; clear e6
                      have Hsu := Lib.hid hsu; clear hsu
                      have Hall := Lib.hid hall; clear hall
                      clear hbad hset h0 b0 b1 b2
                      go_wp2_with fail
                      with_reducible (refine (Ca.out _).mono ?_)
                      rintro e w2 ⟨rfl, rfl⟩
                      go_wp2_with fail
                      with_reducible (refine (Cb.out _).mono ?_)
                      rintro e w2 ⟨rfl, rfl⟩
                      go_wp2_with fail
                      with_reducible (refine (Cr.out _).mono ?_)
                      rintro e w2 ⟨rfl, rfl⟩
                      go_wp2
                      go_roundw
                      case rel => exact ⟨j + 1, by omega, by go_num, Hsu.out, by trivial⟩
                      case measure => simp [intOf]; omega
            · obtain rfl : j = l.length := by omega
              rw [List.take_of_length_le (Nat.le_refl _)] at hall
              have hv : dsOk Wn Hn k l = true := by rw [Hdef2.out]; exact hall
              have hv2 := Hv1.out hv
              have hmem : ∀ s ∈ l, discB Wn Hn s = true := List.all_eq_true.1 hall
              have hBlt := B.lt
              have cm := Cp.out _ hmem R
              have hrl := render_len Wn Hn (dsF k l Wn)
              obtain ⟨rr, er⟩ : ∃ rr, render Wn Hn (dsF k l Wn) = rr := ⟨_, rfl⟩
              simp only [er] at cm hrl
              have hs1 := S.size
              have Cm := Lib.hid cm; clear cm
              have Hv := Lib.hid hv; clear hv
              have Hv2 := Lib.hid hv2; clear hv2
              have Hall := Lib.hid hall; clear hall
              have Hmem := Lib.hid hmem; clear hmem
              have Er := Lib.hid er; clear er
              have Hrl := Lib.hid hrl; clear hrl
              clear R
              go_wp2_with fail
              with_reducible (refine Cm.out.mono ?_)
              rintro e w3 ⟨v, rfl, O, hb⟩
              replace S := S.bl hb
              replace B := B.bl hb
              clear hb Cm
              obtain ⟨q, d, rfl⟩ := O.form
              have b0 := B.cell
              have b1 := B.frozen
              have b2 := (B.set (.slice q rr.length d)).cell
              have o1 : OwnStrs w.heap.size (w3.setCell ⟨w.heap.size, 0, none⟩ (.slice q rr.length d)) (.slice q rr.length d) rr := by
                obtain ⟨p', c', hq, ho⟩ := O
                exact ⟨p', c', hq, own_mono (own_set ho (by simpa using hBlt) _) (by omega)⟩
              have s1 : Below w.heap.size w (w3.setCell ⟨w.heap.size, 0, none⟩ (.slice q rr.length d)) := S.below.setCell (by simp) _
              have O1 := Lib.hid o1; clear o1
              have S1 := Lib.hid s1; clear s1
              clear O B S
              go_wp2
              exact bodyPost_ret (v := .tuple #[.agg #[.slice q rr.length d], .bool true]) (by simp [results, Try.results56, go_sem, b2]) rfl ⟨_, by rw [Hv.out], by rw [Hv2.out, Er.out]; exact O1.out, S1.out⟩
        · have hv : dsOk W H k l = false := by rw [hdef, decide_eq_false h4]; simp
          have hv2 := hv0 hv
          have h5 : 256 < l.length := by omega
          have C1 := Lib.hid c1; clear c1
          have C2 := Lib.hid c2; clear c2
          have Ck := Lib.hid ck; clear ck
          have H1 := Lib.hid h1; clear h1
          have H2 := Lib.hid h2; clear h2
          have H3 := Lib.hid h3; clear h3
          have Hv := Lib.hid hv; clear hv
          have Hv2 := Lib.hid hv2; clear hv2
          have S0 := Lib.hid s0; clear s0
          clear hdef hv0 hr hy1 R hsz h4
          go_enter Try.func56, Try.ntmps56
          go_wp2_with fail
          with_reducible (refine (C1.out _).mono ?_)
          rintro e w1 ⟨rfl, rfl⟩
          go_wp2_with fail
          with_reducible (refine (C2.out _).mono ?_)
          rintro e w1 ⟨rfl, rfl⟩
          go_wp2_with fail
          with_reducible (refine (Ck.out _).mono ?_)
          rintro e w1 ⟨rfl, rfl⟩
          go_wp2
          exact bodyPost_ret (v := .tuple #[.agg #[.slice none 0 0], .bool false]) (by simp [results, Try.results56, go_sem, b2]) rfl ⟨_, by rw [Hv.out], by rw [Hv2.out]; exact OwnStrs.nil _ _, by first | exact S0.out _ S | exact S.below⟩
end Go.Proofs.Ytakoklldmdbphaa
