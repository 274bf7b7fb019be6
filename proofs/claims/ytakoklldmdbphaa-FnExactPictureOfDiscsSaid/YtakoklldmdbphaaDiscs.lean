/- Lists of discs: how they read; contracts of the laws' helpers over them; what an argument of discs reads as. -/
import Derived.Test.YtakoklldmdbphaaOpen2
import Derived.Deep.Strs
set_option linter.unusedVariables false
set_option linter.unusedSimpArgs false
set_option maxRecDepth 100000
namespace Go.Proofs.Ytakoklldmdbphaa
open Go.RowKit

/-- The cell i of a list of discs. -/
def discAt (l : List (Int × Int × Int)) (i : Nat) : Value := .int .i64 (if i % 3 = 0 then (l.getD (i / 3) (0, 0, 0)).1 else if i % 3 = 1 then (l.getD (i / 3) (0, 0, 0)).2.1 else (l.getD (i / 3) (0, 0, 0)).2.2)
theorem discAt_x (l : List (Int × Int × Int)) (k : Nat) : discAt l (k * 3) = .int .i64 (l.getD k (0, 0, 0)).1 := by simp [discAt]
theorem discAt_y (l : List (Int × Int × Int)) (k : Nat) : discAt l (k * 3 + 1) = .int .i64 (l.getD k (0, 0, 0)).2.1 := by
  unfold discAt
  rw [if_neg (by omega), if_pos (by omega), show (k * 3 + 1) / 3 = k by omega]
theorem discAt_r (l : List (Int × Int × Int)) (k : Nat) : discAt l (k * 3 + 2) = .int .i64 (l.getD k (0, 0, 0)).2.2 := by
  unfold discAt
  rw [if_neg (by omega), if_neg (by omega), show (k * 3 + 2) / 3 = k by omega]
theorem info_disc : (Try.prog.info? 135).map (fun i => (i.zero, i.size, i.bytes)) = some (some (.agg #[.int .i64 0, .int .i64 0, .int .i64 0]), 3, 24) := by kernel_rfl
set_option maxHeartbeats 1000000 in
theorem eqDisc_same (x y r : Int) (w : World) : Calls Try.prog 123 #[.agg #[.int .i64 x, .int .i64 y, .int .i64 r], .agg #[.int .i64 x, .int .i64 y, .int .i64 r]] w fun e w' => e = .returned (.bool true) ∧ Below w.heap.size w w' := by
  go_enter Try.func123, Try.ntmps123
  go_wp2
  go_ret
  exact ⟨rfl, by (repeat' (first | exact Below.refl _ _ | assumption | refine Below.drew ?_ | refine below_drewN ?_ _ | refine Below.alloc ?_ ?_ _ | refine Below.setCell ?_ ?_ _ | go_size))⟩
set_option maxRecDepth 100000 in
set_option maxHeartbeats 2000000 in
theorem eqDiscS_same (p q : Option Addr) (c d : Nat) (l : List (Int × Int × Int)) (w : World) (hn : l.length ≤ 1048576) (hr : Rd w p (l.length * 3) (discAt l)) (hq : Rd w q (l.length * 3) (discAt l)) :
    Calls Try.prog 59 #[.slice p l.length c, .slice q l.length d] w fun e w' => e = .returned (.bool true) ∧ Below w.heap.size w w' := by
  go_enter Try.func59, Try.ntmps59
  go_wp2
  go_loopw [5] (fun i wr => ∃ k : Nat, k ≤ l.length ∧ i = .int .i64 k ∧ Since w wr) (fun i _ => l.length - (intOf i).toNat)
  case atStart => exact ⟨0, Nat.zero_le _, rfl, Since.refl w⟩
  case round =>
    obtain ⟨k, hk, rfl, S⟩ := hrel
    by_cases hkn : k < l.length
    · obtain ⟨b, o, rfl, hb, hc⟩ := (hr.below S.below (Nat.le_refl _)).at (k := k * 3) (by omega)
      obtain ⟨b', o', rfl, hb', hc'⟩ := (hq.below S.below (Nat.le_refl _)).at (k := k * 3) (by omega)
      have a0 := hc (k * 3) (by omega)
      have a1 := hc (k * 3 + 1) (by omega)
      have a2 := hc (k * 3 + 2) (by omega)
      have b0 := hc' (k * 3) (by omega)
      have b1 := hc' (k * 3 + 1) (by omega)
      have b2 := hc' (k * 3 + 2) (by omega)
      rw [discAt_x] at a0 b0
      rw [discAt_y] at a1 b1
      rw [discAt_r] at a2 b2
      rw [← Nat.add_assoc] at a1 b1 a2 b2
      have hk0 : (0 : Int) ≤ (k : Int) := Int.natCast_nonneg _
      have hk1 : (k : Int) < (l.length : Int) := by omega
      clear hc hc' hr hq
      obtain ⟨x, ex⟩ : ∃ x, (l.getD k (0, 0, 0)).1 = x := ⟨_, rfl⟩
      obtain ⟨y, ey⟩ : ∃ y, (l.getD k (0, 0, 0)).2.1 = y := ⟨_, rfl⟩
      obtain ⟨r, er⟩ : ∃ r, (l.getD k (0, 0, 0)).2.2 = r := ⟨_, rfl⟩
      rw [ex] at a0 b0
      rw [ey] at a1 b1
      rw [er] at a2 b2
      clear ex ey er
      go_wp2_with fail
      go_region_held3 (fun w' => w'.cell? ⟨b, o + k * 3, none⟩ = some (.int .i64 x) ∧ w'.cell? ⟨b, o + k * 3 + 1, none⟩ = some (.int .i64 y) ∧ w'.cell? ⟨b, o + k * 3 + 2, none⟩ = some (.int .i64 r) ∧ w'.cell? ⟨b', o' + k * 3, none⟩ = some (.int .i64 x) ∧ w'.cell? ⟨b', o' + k * 3 + 1, none⟩ = some (.int .i64 y) ∧ w'.cell? ⟨b', o' + k * 3 + 2, none⟩ = some (.int .i64 r))
        (first
          | exact ⟨a0, a1, a2, b0, b1, b2⟩
          | exact ⟨(hb1.cell (p := ⟨b, o + k * 3, none⟩) hb).trans a0, (hb1.cell (p := ⟨b, o + k * 3 + 1, none⟩) hb).trans a1, (hb1.cell (p := ⟨b, o + k * 3 + 2, none⟩) hb).trans a2, (hb1.cell (p := ⟨b', o' + k * 3, none⟩) hb').trans b0, (hb1.cell (p := ⟨b', o' + k * 3 + 1, none⟩) hb').trans b1, (hb1.cell (p := ⟨b', o' + k * 3 + 2, none⟩) hb').trans b2⟩)
        ((go_at_call 123; refine (eqDisc_same _ _ _ _).mono ?_; rintro e w1 ⟨rfl, hb1⟩))
      have S1 : Since w w1 := ⟨S.below.drew.trans (hb1.mono S.size)⟩
      go_wp2
      go_roundw
      case rel => exact ⟨k + 1, by omega, by go_num, S1⟩
      case measure => simp [intOf]; omega
    · obtain rfl : k = l.length := by omega
      go_wp2
      go_ret
      exact ⟨rfl, S.below⟩
set_option maxHeartbeats 400000 in
theorem markDiscS_nil (p : Option Addr) (c : Nat) (k : Int) (w : World) :
    Calls Try.prog 60 #[.slice p 0 c, .int .i64 k] w fun e w' => e = .returned (.int .i64 k) ∧ w = w' := by
  go_enter Try.func60, Try.ntmps60
  go_wp2
  refine wp_loop_rounds 1 ?_
  rw [rounds_succ]
  go_wp2
  go_ret
  exact ⟨rfl, rfl⟩
set_option maxRecDepth 100000 in
set_option maxHeartbeats 2000000 in
theorem markDiscS_any (g n c : Nat) (f : Nat → Value) (m : Nat) (t : TypeId) (k : Nat) (w : World) (hn : n ≤ 1048576) (hm : n * 3 ≤ m) (h0 : 0 < k) (h1 : k ≤ 1073741824) (hr : w.rowIs g t m f) :
    Calls Try.prog 60 #[.slice (some ⟨g, 0, none⟩) n c, .int .i64 k] w fun e w' => e = .returned (.int .i64 ((k + n * 3 : Nat) : Int)) ∧ w.grownBy w' (some g) := by
  go_enter Try.func60, Try.ntmps60
  go_wp2
  go_loopw [1, 5] (fun kk i wr => ∃ j : Nat, j ≤ n ∧ i = .int .i64 j ∧ kk = .int .i64 ((k + j * 3 : Nat) : Int) ∧ wr.rowIs g t m (fun i => if i < j * 3 then numAt k i else f i) ∧ w.grownBy wr (some g)) (fun _ i _ => n - (intOf i).toNat)
  case atStart => exact ⟨0, Nat.zero_le _, rfl, rfl, hr.congr (fun i _ => by simp), grown_refl _ _⟩
  case round =>
    obtain ⟨j, hj, rfl, rfl, hrow, hgr⟩ := hrel
    by_cases hlt : j < n
    · have c0 := hrow.cell (i := j * 3) (by omega)
      have c1 := hrow.cell (i := j * 3 + 1) (by omega)
      have c2 := hrow.cell (i := j * 3 + 2) (by omega)
      have f0 := hrow.frozen (j * 3)
      have f1 := hrow.frozen (j * 3 + 1)
      have f2 := hrow.frozen (j * 3 + 2)
      have r1 := marked_step hrow
      have d1 := r1.cell (i := j * 3 + 1) (by omega)
      have d2 := r1.cell (i := j * 3 + 2) (by omega)
      have r2 := marked_step r1
      have d3 := r2.cell (i := j * 3 + 2) (by omega)
      have r3 := marked_step r2
      have g1 := grown_setCell (grown_setCell (grown_setCell hgr (j * 3) (.int .i64 ((k + j * 3 : Nat) : Int))) (j * 3 + 1) (.int .i64 ((k + (j * 3 + 1) : Nat) : Int))) (j * 3 + 1 + 1) (.int .i64 ((k + (j * 3 + 1 + 1) : Nat) : Int))
      have e0 : ((k + j * 3 : Nat) : Int) = (k : Int) + (j : Int) * 3 := by omega
      have e1 : ((k + (j * 3 + 1) : Nat) : Int) = (k : Int) + (j : Int) * 3 + 1 := by omega
      have e2 : ((k + (j * 3 + 1 + 1) : Nat) : Int) = (k : Int) + (j : Int) * 3 + 1 + 1 := by omega
      rw [e0] at r3 g1 d1 d2 d3
      rw [e1] at r3 g1 d3
      rw [e2] at r3 g1
      rw [show j * 3 + 1 + 1 + 1 = (j + 1) * 3 by omega] at r3
      simp only [show j * 3 + 1 + 1 = j * 3 + 2 by omega] at r3 g1 d2 d3
      clear e0 e1 e2 r1 r2 hrow hgr hr
      go_wp2
      go_roundw
      case rel => exact ⟨j + 1, by omega, by go_num, by go_num, r3, g1⟩
      case measure => simp [intOf]; omega
    · obtain rfl : j = n := by omega
      go_wp2
      go_ret
      exact ⟨ret_int (by omega), hgr⟩
theorem markDiscS_x {w : World} {g n : Nat} {f : Nat → Value} (c : Nat) (h : Copy w g 135 (n * 3) f) (hn : n ≤ 1048576) (k : Int) (h0 : 0 < k) (h1 : k ≤ 1073741824) :
    Calls Try.prog 60 #[.slice (some ⟨g, 0, none⟩) n c, .int .i64 k] w fun e w' => e = .returned (.int .i64 (k + n * 3)) ∧ w.grownBy w' (some g) := by
  obtain ⟨kn, rfl⟩ := Int.eq_ofNat_of_zero_le (show 0 ≤ k by omega)
  exact (markDiscS_any g n c f (n * 3) _ kn w hn (Nat.le_refl _) (by omega) (by omega) h.row).mono fun e w' ⟨he, hg⟩ => ⟨he.trans (ret_int (by omega)), hg⟩
set_option maxHeartbeats 400000 in
theorem szDiscS_any (p : Option Addr) (n c : Nat) (left : Int) (w : World) (hn : n ≤ maxLen) (h0 : 0 ≤ left) (h1 : left ≤ 1048576) :
    Calls Try.prog 55 #[.slice p n c, .int .i64 left] w fun e w' => e = .returned (.int .i64 (if left - n < 0 then -1 else left - n)) ∧ w = w' := by
  unfold maxLen at hn
  by_cases h : left - n < 0
  · rw [if_pos h]
    go_enter Try.func55, Try.ntmps55
    go_wp2
    go_ret
    exact ⟨rfl, rfl⟩
  · rw [if_neg h]
    go_enter Try.func55, Try.ntmps55
    go_wp2
    go_ret
    exact ⟨rfl, rfl⟩
set_option maxHeartbeats 400000 in
theorem toDisc_any (x y r : Int) (w : World) : Calls Try.prog 116 #[.agg #[.int .i64 x, .int .i64 y, .int .i64 r]] w fun e w' => e = .returned (.agg #[.int .i64 x, .int .i64 y, .int .i64 r]) ∧ Below w.heap.size w w' := by
  go_enter Try.func116, Try.ntmps116
  go_wp2
  exact bodyPost_ret (v := .agg #[.int .i64 x, .int .i64 y, .int .i64 r]) (by simp [results, Try.results116, go_sem]) rfl ⟨rfl, by (repeat' (first | exact Below.refl _ _ | assumption | refine Below.drew ?_ | refine below_drewN ?_ _ | refine Below.alloc ?_ ?_ _ | refine Below.setCell ?_ ?_ _ | go_size))⟩
set_option maxRecDepth 100000 in
set_option maxHeartbeats 2000000 in
theorem toDiscS_any (p : Option Addr) (c : Nat) (l : List (Int × Int × Int)) (w : World) (hn : l.length ≤ 1048576) (hr : Rd w p (l.length * 3) (discAt l)) :
    Calls Try.prog 57 #[.slice p l.length c] w fun e w' => ∃ g, e = .returned (.slice (some ⟨g, 0, none⟩) l.length l.length) ∧ w.heap.size ≤ g ∧ w'.rowIs g 135 (l.length * 3) (discAt l) ∧ Below w.heap.size w w' := by
  have hmk := run_make_row2 (P := Try.prog) 79 135 (.agg #[.int .i64 0, .int .i64 0, .int .i64 0]) 3 24 Try.underlying79 info_disc .i64 .i64 l.length (by omega) (by omega)
  go_enter Try.func57, Try.ntmps57
  go_wp2
  clear hmk
  have R0 := rowIs_new w (madeCells (Value.agg #[.int .i64 0, .int .i64 0, .int .i64 0]).cells (l.length * 3)) 135
  rw [size_madeCells] at R0
  obtain ⟨z, ez⟩ : ∃ z : Nat → Value, z = fun i => (((madeCells (Value.agg #[.int .i64 0, .int .i64 0, .int .i64 0]).cells (l.length * 3)))[i]?).getD undef := ⟨_, rfl⟩
  rw [← ez] at R0
  clear ez
  go_loopw [4] (fun i wr => ∃ k : Nat, k ≤ l.length ∧ i = .int .i64 k ∧ wr.rowIs w.heap.size 135 (l.length * 3) (fun j => if j < k * 3 then discAt l j else z j) ∧ Below w.heap.size w wr) (fun i _ => l.length - (intOf i).toNat)
  case atStart => exact ⟨0, Nat.zero_le _, rfl, R0.congr (fun i _ => by simp), (Below.refl _ _).alloc (Nat.le_refl _) _⟩
  case round =>
    clear R0
    obtain ⟨k, hk, rfl, R, hbl⟩ := hrel
    by_cases hkn : k < l.length
    · obtain ⟨b, o, rfl, hb, hc⟩ := hr.at (k := k * 3) (by omega)
      have a0 := (hbl.cell (p := ⟨b, o + k * 3, none⟩) hb).trans (hc (k * 3) (by omega))
      have a1 := (hbl.cell (p := ⟨b, o + (k * 3 + 1), none⟩) hb).trans (hc (k * 3 + 1) (by omega))
      have a2 := (hbl.cell (p := ⟨b, o + (k * 3 + 2), none⟩) hb).trans (hc (k * 3 + 2) (by omega))
      rw [discAt_x] at a0
      rw [discAt_y, ← Nat.add_assoc] at a1
      rw [discAt_r, ← Nat.add_assoc] at a2
      have eX := discAt_x l k
      have eY := discAt_y l k
      have eR := discAt_r l k
      obtain ⟨x, ex⟩ : ∃ x, (l.getD k (0, 0, 0)).1 = x := ⟨_, rfl⟩
      obtain ⟨y, ey⟩ : ∃ y, (l.getD k (0, 0, 0)).2.1 = y := ⟨_, rfl⟩
      obtain ⟨r, er⟩ : ∃ r, (l.getD k (0, 0, 0)).2.2 = r := ⟨_, rfl⟩
      rw [ex] at a0 eX
      rw [ey] at a1 eY
      rw [er] at a2 eR
      have EX := Lib.hid eX; clear eX
      have EY := Lib.hid eY; clear eY
      have ER := Lib.hid eR; clear eR
      clear ex ey er hc hr
      have hbw := Nat.lt_of_lt_of_le hb hbl.size
      go_wp2_with fail
      refine (toDisc_any _ _ _ _).mono ?_
      rintro e w1 ⟨rfl, hb1⟩
      have hbl1 := hbl.trans (hb1.mono hbl.size)
      have R1 := row_below R hb1 R.lt
      have r0 := R1.cell (i := k * 3) (by omega)
      have r1 := R1.cell (i := k * 3 + 1) (by omega)
      have r2 := R1.cell (i := k * 3 + 2) (by omega)
      have f0 := R1.frozen (k * 3)
      have f1 := R1.frozen (k * 3 + 1)
      have f2 := R1.frozen (k * 3 + 2)
      have R2 := ((R1.set (k * 3) (.int .i64 x)).set (k * 3 + 1) (.int .i64 y)).set (k * 3 + 2) (.int .i64 r)
      have q1 := (R1.set (k * 3) (.int .i64 x)).cell (i := k * 3 + 1) (by omega)
      have q2 := ((R1.set (k * 3) (.int .i64 x)).set (k * 3 + 1) (.int .i64 y)).cell (i := k * 3 + 2) (by omega)
      have hbl2 := ((hbl1.setCell (p := ⟨w.heap.size, k * 3, none⟩) (Nat.le_refl _) (.int .i64 x)).setCell (p := ⟨w.heap.size, k * 3 + 1, none⟩) (Nat.le_refl _) (.int .i64 y)).setCell (p := ⟨w.heap.size, k * 3 + 2, none⟩) (Nat.le_refl _) (.int .i64 r)
      clear R R1 hbl hbl1 hb1
      go_wp2
      go_roundw
      case rel =>
        refine ⟨k + 1, by omega, by go_num, R2.congr (fun i _ => ?_), hbl2⟩
        by_cases e2 : i = k * 3 + 2
        · subst e2; simp [ER.out]; try omega
        · by_cases e1 : i = k * 3 + 1
          · subst e1; simp [EY.out]; try omega
          · by_cases e0 : i = k * 3
            · subst e0; simp [EX.out]; try omega
            · by_cases lt : i < k * 3
              · simp [e2, e1, e0, lt, show i < (k + 1) * 3 by omega]
              · simp [e2, e1, e0, lt, show ¬ i < (k + 1) * 3 by omega]
      case measure => simp [intOf]; omega
    · obtain rfl : k = l.length := by omega
      go_wp2
      go_ret
      exact ⟨_, rfl, Nat.le_refl _, R.congr (fun i hi => by simp [hi]), hbl⟩
theorem toDiscS_x {B : Nat} {w : World} {p : Option Addr} {c : Nat} {l : List (Int × Int × Int)} (h : ArgRd B w p (l.length * 3) (discAt l)) (hn : l.length ≤ 1048576) :
    Calls Try.prog 57 #[.slice p l.length c] w fun e w' => ∃ g, e = .returned (.slice (some ⟨g, 0, none⟩) l.length l.length) ∧ Copy w' g 135 (l.length * 3) (discAt l) ∧ w.heap.size ≤ g ∧ Below w.heap.size w w' :=
  (toDiscS_any p c l w hn h.rd).mono fun e w' ⟨g, he, hg, hr, hb⟩ => ⟨g, he, ⟨hr⟩, hg, hb⟩
section
open Go.ChangeShapes Go.WideShapes Go.ChangeAt Go.Deep
variable {H : Type} {enc : TypeId × Value → H} {W : World} {base : Nat}
theorem open_discsL {fuel : Nat} {cs : List Value} {x : DataW H × List MemPlace} {t : TypeId} (ht : Try.prog.underlying t = some (.slice 138)) (h : DataW.trod enc Try.prog W 0 (fun _ => true) true fuel t cs = some x) :
    ∃ p c l, cs = [.slice p (List.length l) c] ∧ l.length ≤ maxLen ∧ (∀ s ∈ l, (-9223372036854775808 ≤ s.1 ∧ s.1 ≤ 9223372036854775807) ∧ (-9223372036854775808 ≤ s.2.1 ∧ s.2.1 ≤ 9223372036854775807) ∧ (-9223372036854775808 ≤ s.2.2 ∧ s.2.2 ≤ 9223372036854775807)) ∧ Rd W p (l.length * 3) (discAt l) := by
  have ce : Try.prog.cellsOf 138 = 3 := by kernel_rfl
  have ci : Try.prog.cellsOf 2 = 1 := by kernel_rfl
  rcases open_slice ht h with ⟨hcs, _⟩ | ⟨a, len, cap, m, n, D, Pl, hcs, hb, hl, hm, hmm, _, hi⟩
  · exact ⟨none, 0, [], hcs, by simp, by simp, .inl rfl⟩
  · rw [if_pos rfl] at hmm
    subst hmm
    have each : ∀ i, i < len → ∃ q : Int × Int × Int, W.cell? (a.add (i * 3)) = some (.int .i64 q.1) ∧ W.cell? (a.add (i * 3 + 1)) = some (.int .i64 q.2.1) ∧ W.cell? (a.add (i * 3 + 2)) = some (.int .i64 q.2.2) ∧
        (-9223372036854775808 ≤ q.1 ∧ q.1 ≤ 9223372036854775807) ∧ (-9223372036854775808 ≤ q.2.1 ∧ q.2.1 ≤ 9223372036854775807) ∧ (-9223372036854775808 ≤ q.2.2 ∧ q.2.2 ≤ 9223372036854775807) := by
      intro i h'
      obtain ⟨cs', h1, h2⟩ := hi i (by omega)
      rw [ce] at h1
      obtain ⟨_, hlen, hcell⟩ := World.cells?_some h1
      obtain ⟨y0, y1, y2, n', _, _, g0, g1, g2⟩ := trod_struct3 Try.underlying138 h2
      match cs', hlen with
      | [v0, v1, v2], _ =>
        simp only [List.drop_zero, ci, List.take, List.drop] at g0 g1 g2
        have k0 := trod_num Try.underlying2 g0
        have k1 := trod_num Try.underlying2 g1
        have k2 := trod_num Try.underlying2 g2
        have e0 := hcell 0 (by omega)
        have e1 := hcell 1 (by omega)
        have e2 := hcell 2 (by omega)
        rw [add_add] at e0 e1 e2
        simp only [Nat.add_zero, List.getElem?_cons_zero, List.getElem?_cons_succ] at e0 e1 e2
        exact ⟨(numV v0, numV v1, numV v2), by rw [e0, ← k0.1], by rw [e1, ← k1.1], by rw [e2, ← k2.1], k0.2, k1.2, k2.2⟩
    obtain ⟨q, hq⟩ := choose_lt each
    have hlen : ((List.range len).map q).length = len := by simp
    refine ⟨some a, m, (List.range len).map q, by rw [hlen]; exact hcs, by omega, fun s hs => ?_, ?_⟩
    · obtain ⟨i, h1, rfl⟩ := List.mem_map.1 hs
      have := hq i (List.mem_range.1 h1)
      exact ⟨this.2.2.2.1, this.2.2.2.2.1, this.2.2.2.2.2⟩
    · rw [hlen]
      refine Rd.of_add (fun i h' => ?_)
      have hj : i / 3 < len := by omega
      have hg : ((List.range len).map q).getD (i / 3) (0, 0, 0) = q (i / 3) := by simp [List.getD, List.getElem?_map, List.getElem?_range hj]
      have hx := hq (i / 3) hj
      rw [discAt, hg]
      by_cases h0 : i % 3 = 0
      · have e : i = i / 3 * 3 := by omega
        rw [if_pos h0, ← hx.1, ← e]
      · by_cases h1 : i % 3 = 1
        · have e : i = i / 3 * 3 + 1 := by omega
          rw [if_neg h0, if_pos h1, ← hx.2.1, ← e]
        · have e : i = i / 3 * 3 + 2 := by omega
          rw [if_neg h0, if_neg h1, ← hx.2.2.1, ← e]
theorem open_Discs {v : Value} {d : DataW H} {ps : List MemPlace} (hv : Value.okWide Try.prog W .any base 75 v) (h : DataW.Trod enc Try.prog W 0 (fun _ => true) true 75 v d ps) :
    ∃ p c l, v = .slice p (List.length l) c ∧ l.length ≤ maxLen ∧ (∀ s ∈ l, (-9223372036854775808 ≤ s.1 ∧ s.1 ≤ 9223372036854775807) ∧ (-9223372036854775808 ≤ s.2.1 ∧ s.2.1 ≤ 9223372036854775807) ∧ (-9223372036854775808 ≤ s.2.2 ∧ s.2.2 ≤ 9223372036854775807)) ∧ Rd W p (l.length * 3) (discAt l) := by
  obtain ⟨q, n', c', rfl⟩ := okWide_slice Try.underlying75 hv
  obtain ⟨fuel, hf⟩ := h
  obtain ⟨p, c, l, hcs, h1, h2, h3⟩ := open_discsL Try.underlying75 hf
  simp only [Value.cells, List.cons.injEq, and_true] at hcs
  exact ⟨p, c, l, hcs, h1, h2, h3⟩
end
end Go.Proofs.Ytakoklldmdbphaa
