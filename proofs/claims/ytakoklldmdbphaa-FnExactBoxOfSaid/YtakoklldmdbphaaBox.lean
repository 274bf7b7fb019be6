/- Contracts of the reference's and the program's BoxOf. -/
import Derived.Test.YtakoklldmdbphaaNearOf
import Derived.StillTailTactics
import Derived.Deep.RegionLaw
set_option linter.unusedVariables false
namespace Go.Proofs.Ytakoklldmdbphaa
open Go.RowKit

/-- The box of the first n spots: its least and its greatest corner. -/
def boxN (l : List (Int × Int)) : Nat → (Int × Int) × (Int × Int)
  | 0 => (l.getD 0 (0, 0), l.getD 0 (0, 0))
  | n + 1 => ((min (boxN l n).1.1 (l.getD n (0, 0)).1, min (boxN l n).1.2 (l.getD n (0, 0)).2), (max (boxN l n).2.1 (l.getD n (0, 0)).1, max (boxN l n).2.2 (l.getD n (0, 0)).2))
theorem boxN_one (l : List (Int × Int)) : boxN l 1 = boxN l 0 := by
  show ((min (boxN l 0).1.1 (l.getD 0 (0, 0)).1, min (boxN l 0).1.2 (l.getD 0 (0, 0)).2), (max (boxN l 0).2.1 (l.getD 0 (0, 0)).1, max (boxN l 0).2.2 (l.getD 0 (0, 0)).2)) = (l.getD 0 (0, 0), l.getD 0 (0, 0))
  simp [boxN]
def boxOk (ss : List ByteArray) : Bool := okPic ss && !(((spotsL ss).length : Int) == 0)
def boxR (ss : List ByteArray) : (Int × Int) × (Int × Int) := if boxOk ss then boxN (spotsL ss) (spotsL ss).length else ((0, 0), (0, 0))

set_option maxHeartbeats 400000 in
theorem l00Min_any (a b : Int) (w : World) : Calls Try.prog 65 #[.int .i64 a, .int .i64 b] w fun e w' => e = .returned (.int .i64 (min a b)) ∧ w = w' := by
  by_cases h : a < b
  · go_enter Try.func65, Try.ntmps65
    go_wp2
    go_ret
    exact ⟨ret_int (by omega), rfl⟩
  · have h' : b ≤ a := Int.not_lt.1 h
    clear h
    go_enter Try.func65, Try.ntmps65
    go_wp2
    go_ret
    exact ⟨ret_int (by omega), rfl⟩
set_option maxRecDepth 100000 in
set_option maxHeartbeats 4000000 in
theorem sBoxOf_any (p : Option Addr) (c : Nat) (ss : List ByteArray) (w : World) (hn : ss.length ≤ 1048576) (hs : ∀ s ∈ ss, s.size ≤ 1048576) (hr : Rd w p ss.length (strAt ss)) :
    Calls Try.prog 15 #[.agg #[.slice p ss.length c]] w fun e w' =>
      e = .returned (.tuple #[.agg #[.int .i64 (boxR ss).1.1, .int .i64 (boxR ss).1.2], .agg #[.int .i64 (boxR ss).2.1, .int .i64 (boxR ss).2.2], .bool (boxOk ss)]) ∧ Below w.heap.size w w' := by
  have S := (((Since.refl w).alloc (.cells #[.slice p ss.length c] 30)).alloc (.cells #[.int .i64 0, .int .i64 0] 27)).alloc (.cells #[.int .i64 0, .int .i64 0] 27)
  have P : PicVar (((w.alloc (.cells #[.slice p ss.length c] 30)).alloc (.cells #[.int .i64 0, .int .i64 0] 27)).alloc (.cells #[.int .i64 0, .int .i64 0] 27)) w.heap.size p c ss := ⟨(((Blk.new w #[.slice p ss.length c] 30).alloc _).alloc _).cell 0 rfl, ((hr.alloc _).alloc _).alloc _⟩
  have A := (Blk.new (w.alloc (.cells #[.slice p ss.length c] 30)) #[.int .i64 0, .int .i64 0] 27).alloc (.cells #[.int .i64 0, .int .i64 0] 27)
  have B := Blk.new ((w.alloc (.cells #[.slice p ss.length c] 30)).alloc (.cells #[.int .i64 0, .int .i64 0] 27)) #[.int .i64 0, .int .i64 0] 27
  simp only [World.size_alloc] at A B
  have c0 := l01Is_any w.heap.size p c ss _ hn hs P.box P.rd
  cases hok : okPic ss
  · have hv : boxOk ss = false := by simp [boxOk, hok]
    have hv2 : boxR ss = ((0, 0), (0, 0)) := by simp [boxR, hv]
    rw [hok] at c0
    rw [hv, hv2]
    have C0 := Lib.hid c0; clear c0
    have Hok := Lib.hid hok; clear hok
    have Hv := Lib.hid hv; clear hv
    have Hv2 := Lib.hid hv2; clear hv2
    go_enter Try.func15, Try.ntmps15
    go_wp2_with fail
    refine C0.out.mono ?_
    rintro e w1 ⟨rfl, n, rfl⟩
    replace S := S.bl (bl_drewN _ n)
    replace A := A.bl (bl_drewN _ n)
    replace B := B.bl (bl_drewN _ n)
    obtain ⟨e0, f0, e1, f1, t0, t1⟩ := A.two (.int .i64 0) (.int .i64 0)
    have B2 := (B.other (a := ⟨w.heap.size + 1, 0, none⟩) (by simp) (.int .i64 0)).other (a := ⟨w.heap.size + 1, 1, none⟩) (by simp) (.int .i64 0)
    have A2 := ((A.set2 (.int .i64 0) (.int .i64 0)).other (a := ⟨w.heap.size + 1 + 1, 0, none⟩) (by simp) (.int .i64 0)).other (a := ⟨w.heap.size + 1 + 1, 1, none⟩) (by simp) (.int .i64 0)
    obtain ⟨e2, f2, e3, f3, t2, t3⟩ := B2.two (.int .i64 0) (.int .i64 0)
    have t4 := A2.cell 0 rfl
    have t5 := A2.cell 1 rfl
    go_wp2
    refine bodyPost_ret (v := .tuple #[.agg #[.int .i64 0, .int .i64 0], .agg #[.int .i64 0, .int .i64 0], .bool false]) (by simp [results, Try.results15, go_sem, t2, t3, t4, t5]) rfl ⟨rfl, ((S.set2 (b := w.heap.size + 1) (by omega) _ _).set2 (b := w.heap.size + 1 + 1) (by omega) _ _).below⟩
  · have hsl : spotsL ss = spotsTo (wid ss) (bits ss) (wid ss * ss.length) := by rw [spotsL, if_pos hok]
    have c1 := fun w' h => l01Spots_any w.heap.size p c ss w' h
    rw [← hsl] at c1
    have P1 := P.at hok
    rw [hok] at c0
    have hbd := spotsL_len ss
    have hbo : boxOk ss = !(((spotsL ss).length : Int) == 0) := by simp [boxOk, hok]
    have hbr : boxR ss = if boxOk ss then boxN (spotsL ss) (spotsL ss).length else ((0, 0), (0, 0)) := rfl
    obtain ⟨l, el⟩ : ∃ l, spotsL ss = l := ⟨_, rfl⟩
    rw [el] at c1 hbd hbr hbo
    clear el hsl
    have C0 := Lib.hid c0; clear c0
    have C1 := Lib.hid c1; clear c1
    have Hok := Lib.hid hok; clear hok
    have Hbr := Lib.hid hbr; clear hbr
    have Hbo := Lib.hid hbo; clear hbo
    go_enter Try.func15, Try.ntmps15
    go_wp2_with fail
    refine C0.out.mono ?_
    rintro e w1 ⟨rfl, n, rfl⟩
    go_wp2_with fail
    refine (C1.out _ (P1.drewN n)).mono ?_
    rintro e w1 ⟨v, rfl, O, hb1⟩
    obtain ⟨q, d, rfl⟩ := O.form
    replace S := (S.bl (bl_drewN _ n)).bl hb1
    replace A := (A.bl (bl_drewN _ n)).bl hb1
    replace B := (B.bl (bl_drewN _ n)).bl hb1
    have R := O.rd
    have hsz : w.heap.size + 1 + 1 + 1 ≤ w1.heap.size := by have := hb1.size; simpa using this
    clear O hb1 C0 C1 P P1
    rcases Nat.eq_zero_or_pos l.length with h0 | h0
    · have hv : boxOk ss = false := by rw [Hbo.out, h0]; rfl
      have hv2 : boxR ss = ((0, 0), (0, 0)) := by rw [Hbr.out, hv]; rfl
      have Hv := Lib.hid hv; clear hv
      have Hv2 := Lib.hid hv2; clear hv2
      obtain ⟨e0, f0, e1, f1, t0, t1⟩ := A.two (.int .i64 0) (.int .i64 0)
      have B2 := (B.other (a := ⟨w.heap.size + 1, 0, none⟩) (by simp) (.int .i64 0)).other (a := ⟨w.heap.size + 1, 1, none⟩) (by simp) (.int .i64 0)
      have A2 := ((A.set2 (.int .i64 0) (.int .i64 0)).other (a := ⟨w.heap.size + 1 + 1, 0, none⟩) (by simp) (.int .i64 0)).other (a := ⟨w.heap.size + 1 + 1, 1, none⟩) (by simp) (.int .i64 0)
      obtain ⟨e2, f2, e3, f3, t2, t3⟩ := B2.two (.int .i64 0) (.int .i64 0)
      have t4 := A2.cell 0 rfl
      have t5 := A2.cell 1 rfl
      go_wp2
      refine bodyPost_ret (v := .tuple #[.agg #[.int .i64 0, .int .i64 0], .agg #[.int .i64 0, .int .i64 0], .bool false]) (by simp [results, Try.results15, go_sem, t2, t3, t4, t5]) rfl ⟨by rw [Hv.out, Hv2.out], ((S.set2 (b := w.heap.size + 1) (by omega) _ _).set2 (b := w.heap.size + 1 + 1) (by omega) _ _).below⟩
    · have hv : boxOk ss = true := by
        have : ((l.length : Int) == 0) = false := by rw [beq_eq_false_iff_ne]; omega
        rw [Hbo.out, this]; rfl
      have hv2 : boxR ss = boxN l l.length := by rw [Hbr.out, hv]; rfl
      have Hv := Lib.hid hv; clear hv
      have Hv2 := Lib.hid hv2; clear hv2
      obtain ⟨b, o, rfl, hb, hc⟩ := R.at (k := 0) (by omega)
      have a0 := hc (0 * 2) (by omega)
      have a1 := hc (0 * 2 + 1) (by omega)
      rw [spotAt_x] at a0
      rw [spotAt_y] at a1
      simp only [Nat.zero_mul, Nat.add_zero, Nat.zero_add] at a0 a1
      have hx0 : boxN l 1 = ((((l.getD 0 (0, 0)).1, (l.getD 0 (0, 0)).2)), ((l.getD 0 (0, 0)).1, (l.getD 0 (0, 0)).2)) := boxN_one l
      generalize (l.getD 0 (0, 0)).1 = u at *
      generalize (l.getD 0 (0, 0)).2 = v at *
      have L := (Blk.new w1 #[.int .i64 u, .int .i64 v] 27).alloc (.cells #[.int .i64 u, .int .i64 v] 27)
      have U := Blk.new (w1.alloc (.cells #[.int .i64 u, .int .i64 v] 27)) #[.int .i64 u, .int .i64 v] 27
      simp only [World.size_alloc] at U
      have S0 := ((Since.refl w1).alloc (.cells #[.int .i64 u, .int .i64 v] 27)).alloc (.cells #[.int .i64 u, .int .i64 v] 27)
      have c2 : CellAt (w1.alloc (.cells #[.int .i64 u, .int .i64 v] 27)) b o (.int .i64 u) := CellAt.bl a0 (bl_alloc _ _)
      have c3 : CellAt (w1.alloc (.cells #[.int .i64 u, .int .i64 v] 27)) b (o + 1) (.int .i64 v) := CellAt.bl a1 (bl_alloc _ _)
      have d2 := c2.out
      have d3 := c3.out
      clear hc c2 c3
      have hl0 : ((l.length : Int) == 0) = false := by rw [beq_eq_false_iff_ne]; omega
      have Hx0 := Lib.hid hx0; clear hx0
      go_wp2
      go_loopw [8] (fun i wr => ∃ j : Nat, 1 ≤ j ∧ j ≤ l.length ∧ i = .int .i64 j ∧ Blk wr w1.heap.size #[.int .i64 (boxN l j).1.1, .int .i64 (boxN l j).1.2] 27 ∧ Blk wr (w1.heap.size + 1) #[.int .i64 (boxN l j).2.1, .int .i64 (boxN l j).2.2] 27 ∧ Since w1 wr) (fun i _ => l.length - (intOf i).toNat)
      case atStart => exact ⟨1, Nat.le_refl _, h0, rfl, by rw [Hx0.out]; exact L, by rw [Hx0.out]; exact U, S0⟩
      case round =>
        clear L U S0 d2 d3 a0 a1
        obtain ⟨j, hj1, hj, rfl, L, U, S1⟩ := hrel
        by_cases hlt : j < l.length
        · obtain ⟨b', o', hq, hb', hc⟩ := (R.below S1.below (Nat.le_refl _)).at (k := j * 2) (by omega)
          cases hq
          have hm : boxN l (j + 1) = ((min (boxN l j).1.1 (l.getD j (0, 0)).1, min (boxN l j).1.2 (l.getD j (0, 0)).2), (max (boxN l j).2.1 (l.getD j (0, 0)).1, max (boxN l j).2.2 (l.getD j (0, 0)).2)) := rfl
          have a0 := hc (j * 2) (by omega)
          have a1 := hc (j * 2 + 1) (by omega)
          rw [spotAt_x] at a0
          rw [spotAt_y, ← Nat.add_assoc] at a1
          have hj0 : (0 : Int) ≤ (j : Int) := Int.natCast_nonneg _
          have hj2 : (j : Int) < (l.length : Int) := by omega
          generalize (boxN l j).1.1 = m1 at *
          generalize (boxN l j).1.2 = m2 at *
          generalize (boxN l j).2.1 = m3 at *
          generalize (boxN l j).2.2 = m4 at *
          generalize (l.getD j (0, 0)).1 = u' at *
          generalize (l.getD j (0, 0)).2 = v' at *
          have C1 : CellAt wr b (o + j * 2) (.int .i64 u') := a0
          have C2 : CellAt wr b (o + j * 2 + 1) (.int .i64 v') := a1
          have Hm := Lib.hid hm; clear hm
          clear hc a0 a1
          have Q0 := L.cell 0 rfl
          have F0 := L.frozen 0
          have D0 := C1.out
          go_upto_region 11 with (fail)
          go_still_tail 9, (by kernel_rfl)
          still_call ((l00Min_any _ _ _).mono (fun e w' q => ⟨q.1, q.2.symm⟩))
          repeat still_step
          refine wpStill_nil ?_
          change wpList _ _ _ _ _ wr.drew
          have L2 : Blk ((wr.setCell ⟨w1.heap.size, 0, none⟩ (.int .i64 (min m1 u'))).drew) w1.heap.size #[.int .i64 (min m1 u'), .int .i64 m2] 27 := (L.set 0 _).bl (bl_drew _)
          have U2 : Blk ((wr.setCell ⟨w1.heap.size, 0, none⟩ (.int .i64 (min m1 u'))).drew) (w1.heap.size + 1) #[.int .i64 m3, .int .i64 m4] 27 := (U.other (a := ⟨w1.heap.size, 0, none⟩) (by simp) _).bl (bl_drew _)
          have C12 : CellAt ((wr.setCell ⟨w1.heap.size, 0, none⟩ (.int .i64 (min m1 u'))).drew) b (o + j * 2) (.int .i64 u') := (C1.other (by intro e; injection e; omega) _).bl (bl_drew _)
          have C22 : CellAt ((wr.setCell ⟨w1.heap.size, 0, none⟩ (.int .i64 (min m1 u'))).drew) b ((o + j * 2 + 1)) (.int .i64 v') := (C2.other (by intro e; injection e; omega) _).bl (bl_drew _)
          have S2 : Since w1 ((wr.setCell ⟨w1.heap.size, 0, none⟩ (.int .i64 (min m1 u'))).drew) := (S1.setc (by simp) _).bl (bl_drew _)
          go_upto_region 12 with (fail)
          clear Q0 F0 D0
          generalize (wr.setCell ⟨w1.heap.size, 0, none⟩ (.int .i64 (min m1 u'))).drew = wx0 at *
          clear L U C1 C2 S1
          have L := L2
          have U := U2
          have C1 := C12
          have C2 := C22
          have S1 := S2
          clear L2 U2 C12 C22 S2
          have Q0 := L.cell 1 rfl
          have F0 := L.frozen 1
          have D0 := C2.out
          go_still_tail 9, (by kernel_rfl)
          still_call ((l00Min_any _ _ _).mono (fun e w' q => ⟨q.1, q.2.symm⟩))
          repeat still_step
          refine wpStill_nil ?_
          change wpList _ _ _ _ _ wx0.drew
          have L2 : Blk ((wx0.setCell ⟨w1.heap.size, 1, none⟩ (.int .i64 (min m2 v'))).drew) w1.heap.size #[.int .i64 (min m1 u'), .int .i64 (min m2 v')] 27 := (L.set 1 _).bl (bl_drew _)
          have U2 : Blk ((wx0.setCell ⟨w1.heap.size, 1, none⟩ (.int .i64 (min m2 v'))).drew) (w1.heap.size + 1) #[.int .i64 m3, .int .i64 m4] 27 := (U.other (a := ⟨w1.heap.size, 1, none⟩) (by simp) _).bl (bl_drew _)
          have C12 : CellAt ((wx0.setCell ⟨w1.heap.size, 1, none⟩ (.int .i64 (min m2 v'))).drew) b (o + j * 2) (.int .i64 u') := (C1.other (by intro e; injection e; omega) _).bl (bl_drew _)
          have C22 : CellAt ((wx0.setCell ⟨w1.heap.size, 1, none⟩ (.int .i64 (min m2 v'))).drew) b ((o + j * 2 + 1)) (.int .i64 v') := (C2.other (by intro e; injection e; omega) _).bl (bl_drew _)
          have S2 : Since w1 ((wx0.setCell ⟨w1.heap.size, 1, none⟩ (.int .i64 (min m2 v'))).drew) := (S1.setc (by simp) _).bl (bl_drew _)
          go_upto_region 13 with (fail)
          clear Q0 F0 D0
          generalize (wx0.setCell ⟨w1.heap.size, 1, none⟩ (.int .i64 (min m2 v'))).drew = wx1 at *
          clear L U C1 C2 S1
          have L := L2
          have U := U2
          have C1 := C12
          have C2 := C22
          have S1 := S2
          clear L2 U2 C12 C22 S2
          have Q0 := U.cell 0 rfl
          have F0 := U.frozen 0
          have D0 := C1.out
          go_still_tail 9, (by kernel_rfl)
          still_call ((l00Max_any _ _ _).mono (fun e w' q => ⟨q.1, q.2.symm⟩))
          repeat still_step
          refine wpStill_nil ?_
          change wpList _ _ _ _ _ wx1.drew
          have L2 : Blk ((wx1.setCell ⟨w1.heap.size + 1, 0, none⟩ (.int .i64 (max m3 u'))).drew) w1.heap.size #[.int .i64 (min m1 u'), .int .i64 (min m2 v')] 27 := (L.other (a := ⟨w1.heap.size + 1, 0, none⟩) (by simp) _).bl (bl_drew _)
          have U2 : Blk ((wx1.setCell ⟨w1.heap.size + 1, 0, none⟩ (.int .i64 (max m3 u'))).drew) (w1.heap.size + 1) #[.int .i64 (max m3 u'), .int .i64 m4] 27 := (U.set 0 _).bl (bl_drew _)
          have C12 : CellAt ((wx1.setCell ⟨w1.heap.size + 1, 0, none⟩ (.int .i64 (max m3 u'))).drew) b (o + j * 2) (.int .i64 u') := (C1.other (by intro e; injection e; omega) _).bl (bl_drew _)
          have C22 : CellAt ((wx1.setCell ⟨w1.heap.size + 1, 0, none⟩ (.int .i64 (max m3 u'))).drew) b ((o + j * 2 + 1)) (.int .i64 v') := (C2.other (by intro e; injection e; omega) _).bl (bl_drew _)
          have S2 : Since w1 ((wx1.setCell ⟨w1.heap.size + 1, 0, none⟩ (.int .i64 (max m3 u'))).drew) := (S1.setc (by simp) _).bl (bl_drew _)
          go_upto_region 14 with (fail)
          clear Q0 F0 D0
          generalize (wx1.setCell ⟨w1.heap.size + 1, 0, none⟩ (.int .i64 (max m3 u'))).drew = wx2 at *
          clear L U C1 C2 S1
          have L := L2
          have U := U2
          have C1 := C12
          have C2 := C22
          have S1 := S2
          clear L2 U2 C12 C22 S2
          have Q0 := U.cell 1 rfl
          have F0 := U.frozen 1
          have D0 := C2.out
          go_still_tail 9, (by kernel_rfl)
          still_call ((l00Max_any _ _ _).mono (fun e w' q => ⟨q.1, q.2.symm⟩))
          repeat still_step
          refine wpStill_nil ?_
          change wpList _ _ _ _ _ wx2.drew
          have L2 : Blk ((wx2.setCell ⟨w1.heap.size + 1, 1, none⟩ (.int .i64 (max m4 v'))).drew) w1.heap.size #[.int .i64 (min m1 u'), .int .i64 (min m2 v')] 27 := (L.other (a := ⟨w1.heap.size + 1, 1, none⟩) (by simp) _).bl (bl_drew _)
          have U2 : Blk ((wx2.setCell ⟨w1.heap.size + 1, 1, none⟩ (.int .i64 (max m4 v'))).drew) (w1.heap.size + 1) #[.int .i64 (max m3 u'), .int .i64 (max m4 v')] 27 := (U.set 1 _).bl (bl_drew _)
          have C12 : CellAt ((wx2.setCell ⟨w1.heap.size + 1, 1, none⟩ (.int .i64 (max m4 v'))).drew) b (o + j * 2) (.int .i64 u') := (C1.other (by intro e; injection e; omega) _).bl (bl_drew _)
          have C22 : CellAt ((wx2.setCell ⟨w1.heap.size + 1, 1, none⟩ (.int .i64 (max m4 v'))).drew) b ((o + j * 2 + 1)) (.int .i64 v') := (C2.other (by intro e; injection e; omega) _).bl (bl_drew _)
          have S2 : Since w1 ((wx2.setCell ⟨w1.heap.size + 1, 1, none⟩ (.int .i64 (max m4 v'))).drew) := (S1.setc (by simp) _).bl (bl_drew _)
          clear L U C1 C2 S1
          go_wp2
          go_roundw
          case rel => exact ⟨j + 1, by omega, by omega, by go_num, by rw [Hm.out]; exact L2, by rw [Hm.out]; exact U2, S2⟩
          case measure => simp [intOf]; omega
        · obtain rfl : j = l.length := by omega
          obtain ⟨⟨⟨m1, m2⟩, ⟨m3, m4⟩⟩, em⟩ : ∃ m, boxN l l.length = m := ⟨_, rfl⟩
          rw [em] at L U
          dsimp only at L U
          replace A := A.bl S1.below
          replace B := B.bl S1.below
          have hAlt := A.lt
          have hBlt := B.lt
          have S3 := S.bl S1.below
          have L0 := L.cell 0 rfl
          have L1 := L.cell 1 rfl
          have U0 := U.cell 0 rfl
          have U1 := U.cell 1 rfl
          have Em := Lib.hid em; clear em
          obtain ⟨e0, f0, e1, f1, t0, t1⟩ := A.two (.int .i64 m1) (.int .i64 m2)
          have B2 := (B.other (a := ⟨w.heap.size + 1, 0, none⟩) (by simp) (.int .i64 m1)).other (a := ⟨w.heap.size + 1, 1, none⟩) (by simp) (.int .i64 m2)
          have A2 := ((A.set2 (.int .i64 m1) (.int .i64 m2)).other (a := ⟨w.heap.size + 1 + 1, 0, none⟩) (by simp) (.int .i64 m3)).other (a := ⟨w.heap.size + 1 + 1, 1, none⟩) (by simp) (.int .i64 m4)
          obtain ⟨e2, f2, e3, f3, t2, t3⟩ := B2.two (.int .i64 m3) (.int .i64 m4)
          have t4 := A2.cell 0 rfl
          have t5 := A2.cell 1 rfl
          go_upto_region 15 with (fail)
          have hLlt := L.lt
          have hUlt := U.lt
          go_region
          go_wp2
          refine bodyPost_ret (v := .tuple #[.agg #[.int .i64 m1, .int .i64 m2], .agg #[.int .i64 m3, .int .i64 m4], .bool true]) (by simp [results, Try.results15, go_sem, t2, t3, t4, t5]) rfl ⟨by rw [Hv.out, Hv2.out, Em.out], (((S3.set2 (b := w.heap.size + 1) (by omega) _ _).set2 (b := w.heap.size + 1 + 1) (by omega) _ _).bl (bl_drew _)).below⟩
end Go.Proofs.Ytakoklldmdbphaa
