/- Contracts of the reference's and the program's PictureFrom. -/
import Derived.Test.YteoodnhcghjjeaaSpecMk
import Derived.Test.YteoodnhcghjjeaaImplOps
import Derived.IntWalk
set_option linter.unusedVariables false
namespace Go.Proofs.Yteoodnhcghjjeaa
open Go.RowKit

def insB (W H : Int) (s : Int × Int) : Bool := inB s.1 0 (W - 1) && inB s.2 0 (H - 1)
/-- The pixels at some spots. -/
def putF (W : Nat) (l : List (Int × Int)) (i : Nat) : Bool := l.any fun s => decide (s.2.toNat * W + s.1.toNat = i)
def fromOk (W H : Int) (l : List (Int × Int)) : Bool := sizeOkB W H && l.all (insB W H)
def fromL (W H : Int) (l : List (Int × Int)) : List ByteArray := picIf (fromOk W H l) (render W.toNat H.toNat (putF W.toNat l))
theorem spots_take {l : List (Int × Int)} {j : Nat} (h : j < l.length) : l.take (j + 1) = l.take j ++ [l.getD j (0, 0)] := by
  rw [List.take_succ_eq_append_getElem h]; simp [List.getD, List.getElem?_eq_getElem h]
theorem putF_take (W : Nat) (l : List (Int × Int)) (j : Nat) (h : j < l.length) (i : Nat) : putF W (l.take (j + 1)) i = if i = (l.getD j (0, 0)).2.toNat * W + (l.getD j (0, 0)).1.toNat then true else putF W (l.take j) i := by
  rw [spots_take h]
  simp only [putF, List.any_append, List.any_cons, List.any_nil, Bool.or_false]
  by_cases e : i = (l.getD j (0, 0)).2.toNat * W + (l.getD j (0, 0)).1.toNat
  · rw [if_pos e, decide_eq_true e.symm, Bool.or_true]
  · rw [if_neg e, decide_eq_false (fun h => e h.symm), Bool.or_false]
theorem all_take (q : Int × Int → Bool) (l : List (Int × Int)) (j : Nat) (h : j < l.length) : (l.take (j + 1)).all q = ((l.take j).all q && q (l.getD j (0, 0))) := by
  rw [spots_take h]; simp [List.all_append]
theorem all_no (q : Int × Int → Bool) (l : List (Int × Int)) (j : Nat) (h : j < l.length) (hq : q (l.getD j (0, 0)) = false) : l.all q = false := by
  rw [List.all_eq_false]
  exact ⟨l.getD j (0, 0), by simp [List.getD, List.getElem?_eq_getElem h], by rw [hq]; simp⟩
theorem all_yes (q : Int × Int → Bool) (l : List (Int × Int)) (j : Nat) (h : j < l.length) (hq : l.all q = true) : q (l.getD j (0, 0)) = true :=
  List.all_eq_true.1 hq _ (by simp [List.getD, List.getElem?_eq_getElem h])
theorem insB_nat {W H : Nat} {s : Int × Int} (h : insB W H s = true) : ∃ x y : Nat, s.1 = x ∧ s.2 = y ∧ x < W ∧ y < H := hasB_nat (W := W) (H := H) (x := s.1) (y := s.2) h

set_option maxRecDepth 100000 in
set_option maxHeartbeats 4000000 in
theorem l01FromSpots_any (W H : Nat) (p : Option Addr) (c : Nat) (l : List (Int × Int)) (w : World) (hw1 : 1 ≤ W) (hw16 : W ≤ 16) (hh16 : H ≤ 16) (hl : l.all (insB W H) = true) (hn : l.length ≤ 1048576) (hr : Rd w p (l.length * 2) (spotAt l)) :
    Calls Try.prog 101 #[.int .i64 W, .int .i64 H, .slice p l.length c] w fun e w' => ∃ v, e = .returned (.agg #[v]) ∧ OwnStrs w.heap.size w' v (render W H (putF W l)) ∧ Below w.heap.size w w' := by
  have hm := mul_256 hw16 hh16
  have hq1 : (W : Int) * (H : Int) ≤ 256 := by rw [← Int.natCast_mul]; exact Int.ofNat_le.2 hm
  have hq0 : (0 : Int) ≤ (W : Int) * (H : Int) := by rw [← Int.natCast_mul]; exact Int.natCast_nonneg _
  have hmk := run_make_row' (P := Try.prog) 68 4 (.bool false) 1 Try.underlying68 info_bool rfl .i64 .i64 (W * H) (by omega) (by omega)
  rw [Int.natCast_mul] at hmk
  have hrow := World.rowIs_made (w.alloc (.cells #[.slice none 0 0] 28)) (.bool false) (W * H) 4
  simp only [World.size_alloc] at hrow
  have L0 : Bools ((w.alloc (.cells #[.slice none 0 0] 28)).alloc (.cells (madeCells #[.bool false] (W * H)) 4)) (w.heap.size + 1) (W * H) (putF W (l.take 0)) := ⟨W * H, _, Nat.le_refl _, hrow, fun i _ => by simp [putF]⟩
  have B0 := (Box.new w (.slice none 0 0) 28).alloc (.cells (madeCells #[.bool false] (W * H)) 4)
  have S0 := ((Since.refl w).alloc (.cells #[.slice none 0 0] 28)).alloc (.cells (madeCells #[.bool false] (W * H)) 4)
  have Hl := Lib.hid hl; clear hl
  clear hrow
  go_enter Try.func101, Try.ntmps101
  go_wp2_with fail
  clear hmk
  go_loopw [8] (fun i wr => ∃ j : Nat, j ≤ l.length ∧ i = .int .i64 j ∧ Bools wr (w.heap.size + 1) (W * H) (putF W (l.take j)) ∧ Box wr w.heap.size (.slice none 0 0) 28 ∧ Since w wr) (fun i _ => l.length - (intOf i).toNat)
  case atStart => exact ⟨0, Nat.zero_le _, rfl, L0, B0, S0⟩
  case round =>
    clear L0 B0 S0
    obtain ⟨j, hj, rfl, L, B, S⟩ := hrel
    by_cases hlt : j < l.length
    · obtain ⟨x, y, ex, ey, hx, hy⟩ := insB_nat (all_yes _ l j hlt Hl.out)
      obtain ⟨b, o, rfl, hb, hc⟩ := (hr.below S.below (Nat.le_refl _)).at (k := j * 2) (by omega)
      obtain ⟨b', o', hp', hb0, _⟩ := hr.at (k := j * 2) (by omega)
      simp only [Option.some.injEq, Addr.mk.injEq] at hp'
      obtain ⟨rfl, rfl, _⟩ := hp'
      have a0 := hc (j * 2) (by omega)
      have a1 := hc (j * 2 + 1) (by omega)
      have hpf := putF_take W l j hlt
      rw [ex, ey, Int.toNat_natCast, Int.toNat_natCast] at hpf
      rw [spotAt_x, ex] at a0
      rw [spotAt_y, ey, ← Nat.add_assoc] at a1
      obtain ⟨q0, q1, q2, q3⟩ := at_int hx hy hw16 hh16
      have q4 := q2
      rw [Int.natCast_mul] at q4
      have hw1 : IntKind.i64.wrap ((y : Int) * (W : Int)) = (y : Int) * (W : Int) := IntWalk.i64_in _ (by omega)
      have hw2 : IntKind.i64.wrap ((y : Int) * (W : Int) + (x : Int)) = (y : Int) * (W : Int) + (x : Int) := IntWalk.i64_in _ (by omega)
      have q5 : (0 : Int) ≤ (y : Int) * (W : Int) + (x : Int) := by omega
      have hj0 : (0 : Int) ≤ (j : Int) := Int.natCast_nonneg _
      have hj1 : (j : Int) < (l.length : Int) := by omega
      have l1 := L.cell (at_lt hx hy)
      have l2 := L.frozen (y * W + x)
      have L2 := (L.set (y * W + x) true).drewN 1
      have B2 := (B.other (a := ⟨w.heap.size + 1, y * W + x, none⟩) (by simp) (.bool true)).drew 1
      have S2 : Since w (wr.setCell ⟨w.heap.size + 1, y * W + x, none⟩ (.bool true)).drew := (S.set (b := w.heap.size + 1) (by omega) (y * W + x) (.bool true)).bl (bl_drew' _)
      have C1 : CellAt wr b (o + j * 2) (.int .i64 x) := a0
      have C2 : CellAt wr b (o + j * 2 + 1) (.int .i64 y) := a1
      have Hpf := Lib.hid hpf; clear hpf
      clear hc hr ex ey L B S a0 a1
      go_upto_region 5 with (fail)
      go_region_held3 (fun w' => w'.cell? ⟨b, o + j * 2, none⟩ = some (.int .i64 x) ∧ w'.cell? ⟨b, o + j * 2 + 1, none⟩ = some (.int .i64 y))
        (first | ((repeat' (apply And.intro)) <;> (refine CellAt.out ?_; (repeat (first | assumption | refine CellAt.bl ?_ (bl_alloc _ _) | refine CellAt.bl ?_ (bl_drew _) | refine CellAt.bl ?_ (bl_drewN _ _) | refine CellAt.bl ?_ (by assumption) | refine CellAt.other ?_ (by intro e; injection e; omega) _)))))
        (fail)
      go_wp2
      go_roundw
      case rel => exact ⟨j + 1, by omega, by go_num, L2.congr (fun i _ => (Hpf.out i).symm), B2, S2⟩
      case measure => simp [intOf]; omega
    · obtain rfl : j = l.length := by omega
      rw [List.take_of_length_le (Nat.le_refl _)] at L
      have hlt := B.lt
      have mkk := fun w' h => l01Make_any (some ⟨w.heap.size + 1, 0, none⟩) W H (W * H) (putF W l) w' hw1 hw16 hh16 h
      obtain ⟨R, eR⟩ : ∃ R, render W H (putF W l) = R := ⟨_, rfl⟩
      rw [eR] at mkk
      have Mkk := Lib.hid mkk; clear mkk
      have ER := Lib.hid eR; clear eR
      go_wp2_with fail
      refine (Mkk.out _ L.rd).mono ?_
      rintro e w2 ⟨v, rfl, O, hb⟩
      replace B := B.bl hb
      replace S := S.bl hb
      clear hb L
      have f0 := B.frozen
      have f1 := B.cell
      obtain ⟨p', c', rfl⟩ := O.form
      have e0 := (B.set (.slice p' R.length c')).cell
      have O2 := O.set (a := ⟨w.heap.size, 0, none⟩) hlt (.slice p' R.length c')
      have S3 := S.set (b := w.heap.size) (by omega) 0 (.slice p' R.length c')
      go_wp2
      refine bodyPost_ret (v := .agg #[.slice p' R.length c']) (by simp [results, Try.results101, go_sem, e0]) rfl ⟨_, rfl, by rw [ER.out]; exact O2.mono (by omega), S3.below⟩
set_option maxRecDepth 100000 in
set_option maxHeartbeats 4000000 in
theorem sPictureFrom_any (W H : Int) (p : Option Addr) (c : Nat) (l : List (Int × Int)) (w : World) (hn : l.length ≤ 1048576) (hr : Rd w p (l.length * 2) (spotAt l)) :
    Calls Try.prog 45 #[.int .i64 W, .int .i64 H, .slice p l.length c] w fun e w' => ∃ v, e = .returned (.tuple #[.agg #[v], .bool (fromOk W H l)]) ∧ OwnStrs w.heap.size w' v (fromL W H l) ∧ Below w.heap.size w w' := by
  have B := Box.new w (.slice none 0 0) 28
  have S := (Since.refl w).alloc (.cells #[.slice none 0 0] 28)
  have R := hr.alloc (.cells #[.slice none 0 0] 28)
  cases h : sizeOkB W H
  · have hv : fromOk W H l = false := by simp [fromOk, h]
    have hv2 : fromL W H l = [] := by simp [fromL, hv, picIf]
    rw [hv, hv2]
    have f0 := B.cell
    have f1 := B.frozen
    have e0 := (B.set (.slice none 0 0)).cell
    cases h1 : inB W 1 16
    all_goals
      have h2 : inB W 1 16 = true → inB H 1 16 = false := fun e => by rw [sizeOkB, e] at h; exact h
      rw [h1] at h2
      (try have h3 := h2 rfl)
      have H := Lib.hid h; clear h
      have Hv := Lib.hid hv; clear hv
      have Hv2 := Lib.hid hv2; clear hv2
      clear h2
      go_enter Try.func45, Try.ntmps45
      go_wp2_with (go_at_call 100; refine (l01Side_any _ _).mono ?_; rintro e w' ⟨rfl, rfl⟩)
      exact bodyPost_ret (v := .tuple #[.agg #[.slice none 0 0], .bool false]) (by simp [results, Try.results45, go_sem, e0]) rfl ⟨_, rfl, OwnStrs.nil _ _, (by first | exact (S.set (b := w.heap.size) (Nat.le_refl _) 0 (.slice none 0 0)).below | exact S.below)⟩
  · have hh : inB W 1 16 = true ∧ inB H 1 16 = true := by simpa [sizeOkB] using h
    obtain ⟨h1, h2⟩ := hh
    have d1 := inB_true h1
    have d2 := inB_true h2
    obtain ⟨Wn, rfl⟩ := Int.eq_ofNat_of_zero_le (show 0 ≤ W by omega)
    obtain ⟨Hn, rfl⟩ := Int.eq_ofNat_of_zero_le (show 0 ≤ H by omega)
    have hv : fromOk Wn Hn l = l.all (insB Wn Hn) := by simp [fromOk, h]
    have hv2 : fromL Wn Hn l = picIf (l.all (insB Wn Hn)) (render Wn Hn (putF Wn l)) := by simp [fromL, hv]
    rw [hv, hv2]
    obtain ⟨d11, d12⟩ := d1
    obtain ⟨d21, d22⟩ := d2
    have H := Lib.hid h; clear h
    have Hv := Lib.hid hv; clear hv
    have Hv2 := Lib.hid hv2; clear hv2
    go_enter Try.func45, Try.ntmps45
    go_wp2_with (go_at_call 100; refine (l01Side_any _ _).mono ?_; rintro e w' ⟨rfl, rfl⟩)
    have HH1 := Lib.hid h1
    have HH2 := Lib.hid h2
    clear h1 h2
    go_loop [8] (fun i => ∃ j : Nat, j ≤ l.length ∧ i = .int .i64 j ∧ (l.take j).all (insB Wn Hn) = true) (fun i => l.length - (intOf i).toNat)
    case atStart => exact ⟨0, Nat.zero_le _, rfl, by simp⟩
    case round =>
      obtain ⟨j, hj, rfl, hall⟩ := hrel
      by_cases hlt : j < l.length
      · obtain ⟨b, o, rfl, hb, hc⟩ := R.at (k := j * 2) (by omega)
        have a0 := hc (j * 2) (by omega)
        have a1 := hc (j * 2 + 1) (by omega)
        rw [spotAt_x] at a0
        rw [spotAt_y, ← Nat.add_assoc] at a1
        have hj0 : (0 : Int) ≤ (j : Int) := Int.natCast_nonneg _
        have hj1 : (j : Int) < (l.length : Int) := by omega
        have hno := all_no (insB Wn Hn) l j hlt
        have hsu := all_take (insB Wn Hn) l j hlt
        rw [hall] at hsu
        have hi : insB Wn Hn (l.getD j (0, 0)) = (inB (l.getD j (0, 0)).1 0 ((Wn : Int) - 1) && inB (l.getD j (0, 0)).2 0 ((Hn : Int) - 1)) := rfl
        rw [hi] at hno hsu
        clear hi hc
        have f0 := B.cell
        have f1 := B.frozen
        have e0 := (B.set (.slice none 0 0)).cell
        generalize (l.getD j (0, 0)).1 = x at *
        generalize (l.getD j (0, 0)).2 = y at *
        cases e1 : inB x 0 ((Wn : Int) - 1)
        · rw [e1] at hno
          have hv3 := hno rfl
          have Hv3 := Lib.hid hv3; clear hv3
          have Hall := Lib.hid hall; clear hall
          clear hno hsu
          go_wp2_with (go_at_call 82; refine (l00In_any _ _ _ _).mono ?_; rintro e w' ⟨rfl, rfl⟩)
          exact bodyPost_ret (v := .tuple #[.agg #[.slice none 0 0], .bool false]) (by simp [results, Try.results45, go_sem, e0]) rfl ⟨_, by rw [Hv3.out], by rw [Hv3.out]; exact OwnStrs.nil _ _, (by first | exact (S.set (b := w.heap.size) (Nat.le_refl _) 0 (.slice none 0 0)).below | exact S.below)⟩
        · cases e2 : inB y 0 ((Hn : Int) - 1)
          · rw [e1, e2] at hno
            have hv3 := hno rfl
            have Hv3 := Lib.hid hv3; clear hv3
            have Hall := Lib.hid hall; clear hall
            clear hno hsu
            go_wp2_with (go_at_call 82; refine (l00In_any _ _ _ _).mono ?_; rintro e w' ⟨rfl, rfl⟩)
            exact bodyPost_ret (v := .tuple #[.agg #[.slice none 0 0], .bool false]) (by simp [results, Try.results45, go_sem, e0]) rfl ⟨_, by rw [Hv3.out], by rw [Hv3.out]; exact OwnStrs.nil _ _, (by first | exact (S.set (b := w.heap.size) (Nat.le_refl _) 0 (.slice none 0 0)).below | exact S.below)⟩
          · rw [e1, e2] at hsu
            have Hsu := Lib.hid hsu; clear hsu
            have Hall := Lib.hid hall; clear hall
            clear hno
            go_wp2_with (go_at_call 82; refine (l00In_any _ _ _ _).mono ?_; rintro e w' ⟨rfl, rfl⟩)
            go_round
            case rel => exact ⟨j + 1, by omega, by go_num, Hsu.out⟩
            case measure => simp [intOf]; omega
      · obtain rfl : j = l.length := by omega
        rw [List.take_of_length_le (Nat.le_refl _)] at hall
        have hlt := B.lt
        have mkk := l01FromSpots_any Wn Hn p c l _ (by omega) (by omega) (by omega) hall hn R
        obtain ⟨Q, eQ⟩ : ∃ Q, render Wn Hn (putF Wn l) = Q := ⟨_, rfl⟩
        rw [eQ] at mkk
        have Mkk := Lib.hid mkk; clear mkk
        have EQ := Lib.hid eQ; clear eQ
        have Hall := Lib.hid hall; clear hall
        go_wp2_with fail
        refine Mkk.out.mono ?_
        rintro e w2 ⟨v, rfl, O, hb⟩
        replace B := B.bl hb
        replace S := S.bl hb
        clear hb R
        have f0 := B.frozen
        have f1 := B.cell
        obtain ⟨p', c', rfl⟩ := O.form
        have e0 := (B.set (.slice p' Q.length c')).cell
        have O2 := O.set (a := ⟨w.heap.size, 0, none⟩) hlt (.slice p' Q.length c')
        have S3 := S.set (b := w.heap.size) (by omega) 0 (.slice p' Q.length c')
        go_wp2
        refine bodyPost_ret (v := .tuple #[.agg #[.slice p' Q.length c'], .bool true]) (by simp [results, Try.results45, go_sem, e0]) rfl ⟨_, by rw [Hall.out], by rw [Hall.out, EQ.out]; exact O2.mono (by simp), S3.below⟩
set_option maxRecDepth 100000 in
set_option maxHeartbeats 4000000 in
theorem pictureFrom_any (W H : Int) (p : Option Addr) (c : Nat) (l : List (Int × Int)) (w : World) (hn : l.length ≤ 1048576) (hr : Rd w p (l.length * 2) (spotAt l)) :
    Calls Try.prog 47 #[.int .i64 W, .int .i64 H, .slice p l.length c] w fun e w' => ∃ v, e = .returned (.tuple #[.agg #[v], .bool (fromOk W H l)]) ∧ OwnStrs w.heap.size w' v (fromL W H l) ∧ Below w.heap.size w w' := by
  have B := Box.new w (.slice none 0 0) 28
  have S := (Since.refl w).alloc (.cells #[.slice none 0 0] 28)
  have R := hr.alloc (.cells #[.slice none 0 0] 28)
  cases h : sizeOkB W H
  · have hv : fromOk W H l = false := by simp [fromOk, h]
    have hv2 : fromL W H l = [] := by simp [fromL, hv, picIf]
    rw [hv, hv2]
    have f0 := B.cell
    have f1 := B.frozen
    have e0 := (B.set (.slice none 0 0)).cell
    have hcall := fun (w : World) => (sizeOk_any W H w).mono (fun e w' q => (⟨q.1.trans (by rw [h]), q.2⟩ : e = .returned (.bool false) ∧ w = w'))
    have Hcall := Lib.hid hcall; clear hcall
    have H := Lib.hid h; clear h
    have Hv := Lib.hid hv; clear hv
    have Hv2 := Lib.hid hv2; clear hv2
    go_enter Try.func47, Try.ntmps47
    go_wp2_with (go_at_call 98; refine (Hcall.out _).mono ?_; rintro e w' ⟨rfl, rfl⟩)
    exact bodyPost_ret (v := .tuple #[.agg #[.slice none 0 0], .bool false]) (by simp [results, Try.results47, go_sem, e0]) rfl ⟨_, rfl, OwnStrs.nil _ _, (by first | exact (S.set (b := w.heap.size) (Nat.le_refl _) 0 (.slice none 0 0)).below | exact S.below)⟩
  · have hh : inB W 1 16 = true ∧ inB H 1 16 = true := by simpa [sizeOkB] using h
    have d1 := inB_true hh.1
    have d2 := inB_true hh.2
    obtain ⟨Wn, rfl⟩ := Int.eq_ofNat_of_zero_le (show 0 ≤ W by omega)
    obtain ⟨Hn, rfl⟩ := Int.eq_ofNat_of_zero_le (show 0 ≤ H by omega)
    have hv : fromOk Wn Hn l = l.all (insB Wn Hn) := by simp [fromOk, h]
    have hv2 : fromL Wn Hn l = picIf (l.all (insB Wn Hn)) (render Wn Hn (putF Wn l)) := by simp [fromL, hv]
    rw [hv, hv2]
    have hcall := fun (w : World) => (sizeOk_any Wn Hn w).mono (fun e w' q => (⟨q.1.trans (by rw [h]), q.2⟩ : e = .returned (.bool true) ∧ w = w'))
    obtain ⟨d11, d12⟩ := d1
    obtain ⟨d21, d22⟩ := d2
    have Hcall := Lib.hid hcall; clear hcall
    have H := Lib.hid h; clear h
    have Hv := Lib.hid hv; clear hv
    have Hv2 := Lib.hid hv2; clear hv2
    clear hh
    go_enter Try.func47, Try.ntmps47
    go_wp2_with (go_at_call 98; refine (Hcall.out _).mono ?_; rintro e w' ⟨rfl, rfl⟩)
    refine (blank_any Wn Hn _ (by omega) (by omega) (by omega) (by omega)).mono ?_
    rintro e w1 ⟨m, g, rfl, I, hm, hg, hb⟩
    replace B := B.bl hb
    replace S := S.bl hb
    replace R := R.bl hb
    clear hb
    have I0 := I.congr (f' := putF Wn (l.take 0)) (fun i _ => by simp [putF])
    simp only [World.size_alloc] at hm hg
    have hbl : w1.heap.size ≤ w1.heap.size := Nat.le_refl _
    have J0 : Below (w.heap.size + 1) w1 w1 := Below.refl _ _
    clear I hbl
    go_wp2_with fail
    go_loopw [21] (fun i wr => ∃ j : Nat, j ≤ l.length ∧ i = .int .i64 j ∧ Img wr m g Wn Hn (putF Wn (l.take j)) ∧ Box wr w.heap.size (.slice none 0 0) 28 ∧ Since w wr ∧ (l.take j).all (insB Wn Hn) = true) (fun i _ => l.length - (intOf i).toNat)
    case atStart => exact ⟨0, Nat.zero_le _, rfl, I0, B, S, by simp⟩
    case round =>
      clear I0 B S J0
      obtain ⟨j, hj, rfl, I, B, S, hall⟩ := hrel
      by_cases hlt : j < l.length
      · obtain ⟨b, o, rfl, hb, hc⟩ := (hr.below S.below (Nat.le_refl _)).at (k := j * 2) (by omega)
        have a0 := hc (j * 2) (by omega)
        have a1 := hc (j * 2 + 1) (by omega)
        rw [spotAt_x] at a0
        rw [spotAt_y, ← Nat.add_assoc] at a1
        have hj0 : (0 : Int) ≤ (j : Int) := Int.natCast_nonneg _
        have hj1 : (j : Int) < (l.length : Int) := by omega
        have hno := all_no (insB Wn Hn) l j hlt
        have hsu := all_take (insB Wn Hn) l j hlt
        have hpf := putF_take Wn l j hlt
        rw [hall] at hsu
        have hi : insB Wn Hn (l.getD j (0, 0)) = hasB Wn Hn (l.getD j (0, 0)).1 (l.getD j (0, 0)).2 := rfl
        rw [hi] at hno hsu
        clear hi hc
        generalize (l.getD j (0, 0)).1 = x at *
        generalize (l.getD j (0, 0)).2 = y at *
        have hy := bl_alloc wr (.cells #[.int .i64 x, .int .i64 y] 54)
        have I1 := I.bl hy
        have B1 := B.bl hy
        have S1 := S.bl hy
        have c1 := has_any m g Wn Hn _ x y _ I1
        have Hall := Lib.hid hall; clear hall
        have Hpf := Lib.hid hpf; clear hpf
        clear I B S hy hb
        cases hh : hasB Wn Hn x y
        · rw [hh] at hno c1
          have hv3 := hno rfl
          have f0 := B1.cell
          have f1 := B1.frozen
          have e0 := (B1.set (.slice none 0 0)).cell
          have Hv3 := Lib.hid hv3; clear hv3
          have C1 := Lib.hid c1; clear c1
          have Hh := Lib.hid hh; clear hh
          clear hno hsu I1
          go_wp2_with (go_at_call 60; refine C1.out.mono ?_; rintro e w' ⟨rfl, rfl⟩)
          exact bodyPost_ret (v := .tuple #[.agg #[.slice none 0 0], .bool false]) (by simp [results, Try.results47, go_sem, e0]) rfl ⟨_, by rw [Hv3.out], by rw [Hv3.out]; exact OwnStrs.nil _ _, (S1.set (b := w.heap.size) (Nat.le_refl _) 0 (.slice none 0 0)).below⟩
        · rw [hh] at hsu c1
          obtain ⟨xn, yn, rfl, rfl, hxW, hyH⟩ := hasB_nat hh
          have c2 := set_any m g Wn Hn _ (xn : Int) (yn : Int) true _ I1 (by omega) (by omega) (by omega) (by omega)
          simp only [Int.toNat_natCast] at c2
          have I2 := (I1.set (yn * Wn + xn) true).drewN 1
          have B2 := (B1.other (a := ⟨g, yn * Wn + xn, none⟩) (by simp; omega) (.bool true)).drew 1
          have S2 := (S1.set (b := g) (by omega) (yn * Wn + xn) (.bool true)).bl (bl_drew' _)
          have Hsu := Lib.hid hsu; clear hsu
          have C1 := Lib.hid c1; clear c1
          have C2 := Lib.hid c2; clear c2
          have Hh := Lib.hid hh; clear hh
          clear hno I1 B1 S1
          go_wp2_with (first | (go_at_call 60; refine C1.out.mono ?_; rintro e w' ⟨rfl, rfl⟩) | (go_at_call 78; refine C2.out.mono ?_; rintro e w' ⟨rfl, rfl⟩))
          go_roundw
          case rel => exact ⟨j + 1, by omega, by go_num, I2.congr (fun i _ => by rw [Hpf.out i, Int.toNat_natCast, Int.toNat_natCast]), B2, S2, Hsu.out⟩
          case measure => simp [intOf]; omega
      · obtain rfl : j = l.length := by omega
        rw [List.take_of_length_le (Nat.le_refl _)] at hall I
        have hlt := B.lt
        have mkk := told_any m g Wn Hn _ _ I
        obtain ⟨Q, eQ⟩ : ∃ Q, render Wn Hn (putF Wn l) = Q := ⟨_, rfl⟩
        rw [eQ] at mkk
        have Mkk := Lib.hid mkk; clear mkk
        have EQ := Lib.hid eQ; clear eQ
        have Hall := Lib.hid hall; clear hall
        clear I
        go_wp2_with fail
        refine Mkk.out.mono ?_
        rintro e w2 ⟨v, rfl, O, hb⟩
        replace B := B.bl hb
        replace S := S.bl hb
        clear hb R
        have f0 := B.frozen
        have f1 := B.cell
        obtain ⟨p', c', rfl⟩ := O.form
        have e0 := (B.set (.slice p' Q.length c')).cell
        have O2 := O.set (a := ⟨w.heap.size, 0, none⟩) hlt (.slice p' Q.length c')
        have hsz := S.size
        have S3 := S.set (b := w.heap.size) (by omega) 0 (.slice p' Q.length c')
        go_wp2
        refine bodyPost_ret (v := .tuple #[.agg #[.slice p' Q.length c'], .bool true]) (by simp [results, Try.results47, go_sem, e0]) rfl ⟨_, by rw [Hall.out], by rw [Hall.out, EQ.out]; exact O2.mono (by omega), S3.below⟩
end Go.Proofs.Yteoodnhcghjjeaa
