/- Contracts of the laws' helpers over slices of spots. -/
import Derived.Test.YtjplikkehhpomaaSpots
import Derived.Test.YtjplikkehhpomaaInts
set_option linter.unusedVariables false
namespace Go.Proofs.Ytjplikkehhpomaa
open Go.RowKit

set_option maxHeartbeats 400000 in
theorem eqSpot_same (x y : Int) (w : World) : Calls Try.prog 46 #[.agg #[.int .i64 x, .int .i64 y], .agg #[.int .i64 x, .int .i64 y]] w fun e w' => e = .returned (.bool true) ∧ Below w.heap.size w w' := by
  go_enter Try.func46, Try.ntmps46
  go_wp2
  go_ret
  exact ⟨rfl, by (repeat' (first | exact Below.refl _ _ | assumption | refine Below.drew ?_ | refine below_drewN ?_ _ | refine Below.alloc ?_ ?_ _ | refine Below.setCell ?_ ?_ _ | go_size))⟩
set_option maxRecDepth 100000 in
set_option maxHeartbeats 1000000 in
theorem eqSpotS_same (p q : Option Addr) (c d : Nat) (l : List (Int × Int)) (w : World) (hn : l.length ≤ 1048576) (hr : Rd w p (l.length * 2) (spotAt l)) (hq : Rd w q (l.length * 2) (spotAt l)) :
    Calls Try.prog 15 #[.slice p l.length c, .slice q l.length d] w fun e w' => e = .returned (.bool true) ∧ Below w.heap.size w w' := by
  go_enter Try.func15, Try.ntmps15
  go_wp2
  go_loopw [5] (fun i wr => ∃ k : Nat, k ≤ l.length ∧ i = .int .i64 k ∧ Since w wr) (fun i _ => l.length - (intOf i).toNat)
  case atStart => exact ⟨0, Nat.zero_le _, rfl, Since.refl w⟩
  case round =>
    obtain ⟨k, hk, rfl, S⟩ := hrel
    by_cases hkn : k < l.length
    · obtain ⟨b, o, rfl, hb, hc⟩ := (hr.below S.below (Nat.le_refl _)).at (k := k * 2) (by omega)
      obtain ⟨b', o', rfl, hb', hc'⟩ := (hq.below S.below (Nat.le_refl _)).at (k := k * 2) (by omega)
      have a0 := hc (k * 2) (by omega)
      have a1 := hc (k * 2 + 1) (by omega)
      have b0 := hc' (k * 2) (by omega)
      have b1 := hc' (k * 2 + 1) (by omega)
      rw [spotAt_x] at a0 b0
      rw [spotAt_y] at a1 b1
      rw [← Nat.add_assoc] at a1 b1
      have hk0 : (0 : Int) ≤ (k : Int) := Int.natCast_nonneg _
      have hk1 : (k : Int) < (l.length : Int) := by omega
      clear hc hc' hr hq
      obtain ⟨x, ex⟩ : ∃ x, (l.getD k (0, 0)).1 = x := ⟨_, rfl⟩
      obtain ⟨y, ey⟩ : ∃ y, (l.getD k (0, 0)).2 = y := ⟨_, rfl⟩
      rw [ex] at a0 b0
      rw [ey] at a1 b1
      clear ex ey
      go_wp2_with fail
      go_region_held3 (fun w' => w'.cell? ⟨b, o + k * 2, none⟩ = some (.int .i64 x) ∧ w'.cell? ⟨b, o + k * 2 + 1, none⟩ = some (.int .i64 y) ∧ w'.cell? ⟨b', o' + k * 2, none⟩ = some (.int .i64 x) ∧ w'.cell? ⟨b', o' + k * 2 + 1, none⟩ = some (.int .i64 y))
        (first
          | exact ⟨a0, a1, b0, b1⟩
          | exact ⟨(hb1.cell (p := ⟨b, o + k * 2, none⟩) hb).trans a0, (hb1.cell (p := ⟨b, o + k * 2 + 1, none⟩) hb).trans a1, (hb1.cell (p := ⟨b', o' + k * 2, none⟩) hb').trans b0, (hb1.cell (p := ⟨b', o' + k * 2 + 1, none⟩) hb').trans b1⟩)
        ((go_at_call 46; refine (eqSpot_same _ _ _).mono ?_; rintro e w1 ⟨rfl, hb1⟩))
      have S1 : Since w w1 := ⟨S.below.drew.trans (hb1.mono S.size)⟩
      go_wp2
      go_roundw
      case rel => exact ⟨k + 1, by omega, by go_num, S1⟩
      case measure => simp [intOf]; omega
    · obtain rfl : k = l.length := by omega
      go_wp2
      go_ret
      exact ⟨rfl, S.below⟩
set_option maxRecDepth 100000 in
set_option maxHeartbeats 1000000 in
theorem markSpotS_any (g n c : Nat) (f : Nat → Value) (m : Nat) (t : TypeId) (k : Nat) (w : World) (hn : n ≤ 1048576) (hm : n * 2 ≤ m) (h0 : 0 < k) (h1 : k ≤ 1073741824) (hr : w.rowIs g t m f) :
    Calls Try.prog 16 #[.slice (some ⟨g, 0, none⟩) n c, .int .i64 k] w fun e w' => e = .returned (.int .i64 ((k + n * 2 : Nat) : Int)) ∧ w'.rowIs g t m (fun i => if i < n * 2 then numAt k i else f i) ∧ w.grownBy w' (some g) := by
  go_enter Try.func16, Try.ntmps16
  go_wp2
  go_loopw [1, 5] (fun kk i wr => ∃ j : Nat, j ≤ n ∧ i = .int .i64 j ∧ kk = .int .i64 ((k + j * 2 : Nat) : Int) ∧ wr.rowIs g t m (fun i => if i < j * 2 then numAt k i else f i) ∧ w.grownBy wr (some g)) (fun _ i _ => n - (intOf i).toNat)
  case atStart => exact ⟨0, Nat.zero_le _, rfl, rfl, hr.congr (fun i _ => by simp), grown_refl _ _⟩
  case round =>
    obtain ⟨j, hj, rfl, rfl, hrow, hgr⟩ := hrel
    by_cases hlt : j < n
    · have c0 := hrow.cell (i := j * 2) (by omega)
      have c1 := hrow.cell (i := j * 2 + 1) (by omega)
      have f0 := hrow.frozen (j * 2)
      have f1 := hrow.frozen (j * 2 + 1)
      have r1 := marked_step hrow
      have d1 := r1.cell (i := j * 2 + 1) (by omega)
      have r2 := marked_step r1
      have g1 := grown_setCell (grown_setCell hgr (j * 2) (.int .i64 ((k + j * 2 : Nat) : Int))) (j * 2 + 1) (.int .i64 ((k + (j * 2 + 1) : Nat) : Int))
      have e0 : ((k + j * 2 : Nat) : Int) = (k : Int) + (j : Int) * 2 := by omega
      have e1 : ((k + (j * 2 + 1) : Nat) : Int) = (k : Int) + (j : Int) * 2 + 1 := by omega
      rw [e0] at r2 g1 d1
      rw [e1] at r2 g1
      rw [show j * 2 + 1 + 1 = (j + 1) * 2 by omega] at r2
      clear e0 e1 r1 hrow hgr hr
      go_wp2
      go_roundw
      case rel => exact ⟨j + 1, by omega, by go_num, by go_num, r2, g1⟩
      case measure => simp [intOf]; omega
    · obtain rfl : j = n := by omega
      go_wp2
      go_ret
      exact ⟨ret_int (by omega), hrow, hgr⟩
set_option maxRecDepth 100000 in
set_option maxHeartbeats 1000000 in
theorem heldSpotS_any (p : Option Addr) (n c : Nat) (k : Nat) (w : World) (hn : n ≤ 1048576) (h0 : 0 < k) (h1 : k ≤ 1073741824) (hr : Rd w p (n * 2) (numAt k)) :
    Calls Try.prog 17 #[.slice p n c, .int .i64 k] w fun e w' => e = .returned (.int .i64 ((k + n * 2 : Nat) : Int)) ∧ w = w' := by
  go_enter Try.func17, Try.ntmps17
  go_wp2
  go_loop [1, 5] (fun kk i => ∃ j : Nat, j ≤ n ∧ i = .int .i64 j ∧ kk = .int .i64 ((k + j * 2 : Nat) : Int)) (fun _ i => n - (intOf i).toNat)
  case atStart => exact ⟨0, Nat.zero_le _, rfl, rfl⟩
  case round =>
    obtain ⟨j, hj, rfl, rfl⟩ := hrel
    by_cases hlt : j < n
    · obtain ⟨b, o, rfl, hb, hc⟩ := hr.at (k := j * 2) (by omega)
      have c0 := hc (j * 2) (by omega)
      have c1 := hc (j * 2 + 1) (by omega)
      rw [numAt] at c0 c1
      have e0 : ((k + j * 2 : Nat) : Int) = (k : Int) + (j : Int) * 2 := by omega
      have e1 : ((k + (j * 2 + 1) : Nat) : Int) = (k : Int) + (j : Int) * 2 + 1 := by omega
      rw [e0] at c0
      rw [e1, ← Nat.add_assoc] at c1
      clear hc hr e0 e1
      go_wp2
      go_round
      case rel => exact ⟨j + 1, by omega, by go_num, by go_num⟩
      case measure => simp [intOf]; omega
    · obtain rfl : j = n := by omega
      go_wp2
      go_ret
      exact ⟨ret_int (by omega), rfl⟩
set_option maxHeartbeats 400000 in
theorem markSpotS_nil (p : Option Addr) (c : Nat) (k : Int) (w : World) :
    Calls Try.prog 16 #[.slice p 0 c, .int .i64 k] w fun e w' => e = .returned (.int .i64 k) ∧ w = w' := by
  go_enter Try.func16, Try.ntmps16
  go_wp2
  refine wp_loop_rounds 1 ?_
  rw [rounds_succ]
  go_wp2
  go_ret
  exact ⟨rfl, rfl⟩
theorem OwnSpots.row {B : Nat} {w : World} {p : Option Addr} {n c : Nat} {l : List (Int × Int)} (h : OwnSpots B w (.slice p n c) l) : n = l.length ∧ (l = [] ∨ ∃ g m f, p = some ⟨g, 0, none⟩ ∧ B ≤ g ∧ g < w.heap.size ∧ l.length * 2 ≤ m ∧ w.rowIs g 28 m f) := by
  obtain ⟨p', c', hv, ho⟩ := h
  simp only [Value.slice.injEq] at hv
  obtain ⟨rfl, rfl, rfl⟩ := hv
  refine ⟨rfl, ?_⟩
  rcases ho.2 with ⟨_, h0⟩ | ⟨g, cap, cur, hv, hb, hg, hn, hm, hs, _⟩
  · exact .inl (List.length_eq_zero_iff.1 h0)
  · simp only [Value.slice.injEq] at hv
    refine .inr ⟨g, cur.size, fun i => (cur[i]?).getD undef, hv.1, hb, (Array.getElem?_eq_some_iff.1 hg).1, by omega, cur, hg, rfl, fun i hi => by simp [hi]⟩
theorem markSpotS_own {B : Nat} {w : World} {p : Option Addr} {n c : Nat} {l : List (Int × Int)} (h : OwnSpots B w (.slice p n c) l) (hn : l.length ≤ 1048576) (k : Nat) (h0 : 0 < k) (h1 : k ≤ 1073741824) :
    Calls Try.prog 16 #[.slice p n c, .int .i64 k] w fun e w' => e = .returned (.int .i64 ((k + l.length * 2 : Nat) : Int)) ∧ Rd w' p (l.length * 2) (numAt k) ∧ w.grownBy w' (Value.slice p n c).ownBlock := by
  obtain ⟨rfl, hr⟩ := h.row
  rcases hr with rfl | ⟨g, m, f, rfl, hg, hlt, hm, hrow⟩
  · refine (markSpotS_nil p c k w).mono ?_
    rintro e w1 ⟨rfl, rfl⟩
    exact ⟨rfl, .inl rfl, grown_refl _ _⟩
  · refine (markSpotS_any g l.length c f m _ k w hn hm h0 h1 hrow).mono fun e w' ⟨he, hr, hgr⟩ => ⟨he, ?_, hgr⟩
    exact (Rd.of_row hr hm).congr (fun i hi => by simp [hi])

set_option maxHeartbeats 400000 in
theorem szSpotS_any (p : Option Addr) (n c : Nat) (left : Int) (w : World) (hn : n ≤ maxLen) (h0 : 0 ≤ left) (h1 : left ≤ 1048576) :
    Calls Try.prog 24 #[.slice p n c, .int .i64 left] w fun e w' => e = .returned (.int .i64 (if left - n < 0 then -1 else left - n)) ∧ w = w' := by
  unfold maxLen at hn
  by_cases h : left - n < 0
  · rw [if_pos h]
    go_enter Try.func24, Try.ntmps24
    go_wp2
    go_ret
    exact ⟨rfl, rfl⟩
  · rw [if_neg h]
    go_enter Try.func24, Try.ntmps24
    go_wp2
    go_ret
    exact ⟨rfl, rfl⟩
set_option maxHeartbeats 400000 in
theorem toSpot2_any (x y : Int) (w : World) : Calls Try.prog 30 #[.agg #[.int .i64 x, .int .i64 y]] w fun e w' => e = .returned (.agg #[.int .i64 x, .int .i64 y]) ∧ Below w.heap.size w w' := by
  go_enter Try.func30, Try.ntmps30
  go_wp2
  exact bodyPost_ret (v := .agg #[.int .i64 x, .int .i64 y]) (by simp [results, Try.results30, go_sem]) rfl ⟨rfl, by (repeat' (first | exact Below.refl _ _ | assumption | refine Below.drew ?_ | refine below_drewN ?_ _ | refine Below.alloc ?_ ?_ _ | refine Below.setCell ?_ ?_ _ | go_size))⟩
theorem run_make_row2 {P : Program} (t e : TypeId) (z : Value) (size bytes : Nat) (ht : P.underlying t = some (.slice e)) (hinfo : (P.info? e).map (fun i => (i.zero, i.size, i.bytes)) = some (some z, size, bytes))
    (kl kc : IntKind) (n : Nat) (hbytes : bytes * n ≤ 281474976710656) (h63 : n ≤ 9223372036854775807) (w : World) :
    (Instr.makeSlice t (.int kl (n : Int)) (.int kc (n : Int))).run P w = .ok (.slice (some ⟨w.heap.size, 0, none⟩) n n) (w.alloc (.cells (madeCells z.cells (n * size)) e)) := by
  obtain ⟨i, hi, hz, hs, hb⟩ := info_parts hinfo
  have hb' : (i.bytes : Int) * (n : Int) ≤ 281474976710656 := by
    rw [hb]
    have h : ((bytes * n : Nat) : Int) ≤ 281474976710656 := by omega
    rwa [Int.natCast_mul] at h
  have hr := run_make (P := P) (w := w) t e i z ht hi hz kl kc n n (by omega) (Int.le_refl _) hb' (by omega)
  simp only [Int.toNat_natCast, hs] at hr
  exact hr
/-- A new row, whatever it holds. -/
theorem rowIs_new (w : World) (c : Array Value) (t : TypeId) : (w.alloc (.cells c t)).rowIs w.heap.size t c.size (fun i => (c[i]?).getD undef) :=
  World.rowIs_alloc w c t _ (fun i hi => by simp [hi])
set_option maxRecDepth 100000 in
set_option maxHeartbeats 1000000 in
theorem toSpotS_any (p : Option Addr) (c : Nat) (l : List (Int × Int)) (w : World) (hn : l.length ≤ 1048576) (hr : Rd w p (l.length * 2) (spotAt l)) :
    Calls Try.prog 26 #[.slice p l.length c] w fun e w' => ∃ g, e = .returned (.slice (some ⟨g, 0, none⟩) l.length l.length) ∧ w.heap.size ≤ g ∧ w'.rowIs g 28 (l.length * 2) (spotAt l) ∧ Below w.heap.size w w' := by
  have hmk := run_make_row2 (P := Try.prog) 33 28 (.agg #[.int .i64 0, .int .i64 0]) 2 16 Try.underlying33 info_spot .i64 .i64 l.length (by omega) (by omega)
  go_enter Try.func26, Try.ntmps26
  go_wp2
  clear hmk
  have R0 := rowIs_new w (madeCells (Value.agg #[.int .i64 0, .int .i64 0]).cells (l.length * 2)) 28
  rw [size_madeCells] at R0
  obtain ⟨z, ez⟩ : ∃ z : Nat → Value, z = fun i => (((madeCells (Value.agg #[.int .i64 0, .int .i64 0]).cells (l.length * 2)))[i]?).getD undef := ⟨_, rfl⟩
  rw [← ez] at R0
  clear ez
  go_loopw [4] (fun i wr => ∃ k : Nat, k ≤ l.length ∧ i = .int .i64 k ∧ wr.rowIs w.heap.size 28 (l.length * 2) (fun j => if j < k * 2 then spotAt l j else z j) ∧ Below w.heap.size w wr) (fun i _ => l.length - (intOf i).toNat)
  case atStart => exact ⟨0, Nat.zero_le _, rfl, R0.congr (fun i _ => by simp), (Below.refl _ _).alloc (Nat.le_refl _) _⟩
  case round =>
    clear R0
    obtain ⟨k, hk, rfl, R, hbl⟩ := hrel
    by_cases hkn : k < l.length
    · obtain ⟨b, o, rfl, hb, hc⟩ := hr.at (k := k * 2) (by omega)
      have a0 := (hbl.cell (p := ⟨b, o + k * 2, none⟩) hb).trans (hc (k * 2) (by omega))
      have a1 := (hbl.cell (p := ⟨b, o + (k * 2 + 1), none⟩) hb).trans (hc (k * 2 + 1) (by omega))
      rw [spotAt_x] at a0
      rw [spotAt_y, ← Nat.add_assoc] at a1
      have eX := spotAt_x l k
      have eY := spotAt_y l k
      obtain ⟨x, ex⟩ : ∃ x, (l.getD k (0, 0)).1 = x := ⟨_, rfl⟩
      obtain ⟨y, ey⟩ : ∃ y, (l.getD k (0, 0)).2 = y := ⟨_, rfl⟩
      rw [ex] at a0 eX
      rw [ey] at a1 eY
      have EX := Lib.hid eX; clear eX
      have EY := Lib.hid eY; clear eY
      clear ex ey hc hr
      have hbw := Nat.lt_of_lt_of_le hb hbl.size
      go_wp2_with fail
      refine (toSpot2_any _ _ _).mono ?_
      rintro e w1 ⟨rfl, hb1⟩
      have hbl1 := hbl.trans (hb1.mono hbl.size)
      have R1 := row_below R hb1 R.lt
      have r0 := R1.cell (i := k * 2) (by omega)
      have r1 := R1.cell (i := k * 2 + 1) (by omega)
      have f0 := R1.frozen (k * 2)
      have f1 := R1.frozen (k * 2 + 1)
      have R2 := (R1.set (k * 2) (.int .i64 x)).set (k * 2 + 1) (.int .i64 y)
      have q1 := (R1.set (k * 2) (.int .i64 x)).cell (i := k * 2 + 1) (by omega)
      have hbl2 := (hbl1.setCell (p := ⟨w.heap.size, k * 2, none⟩) (Nat.le_refl _) (.int .i64 x)).setCell (p := ⟨w.heap.size, k * 2 + 1, none⟩) (Nat.le_refl _) (.int .i64 y)
      clear R R1 hbl hbl1 hb1
      go_wp2
      go_roundw
      case rel =>
        refine ⟨k + 1, by omega, by go_num, R2.congr (fun i _ => ?_), hbl2⟩
        by_cases e1 : i = k * 2 + 1
        · subst e1; simp [EY.out]; try omega
        · by_cases e0 : i = k * 2
          · subst e0; simp [EX.out]; try omega
          · by_cases lt : i < k * 2
            · simp [e1, e0, lt, show i < (k + 1) * 2 by omega]
            · simp [e1, e0, lt, show ¬ i < (k + 1) * 2 by omega]
      case measure => simp [intOf]; omega
    · obtain rfl : k = l.length := by omega
      go_wp2
      go_ret
      exact ⟨_, rfl, Nat.le_refl _, R.congr (fun i hi => by simp [hi]), hbl⟩
end Go.Proofs.Ytjplikkehhpomaa
