/- Contract of the program's BestShift. -/
import Derived.Test.YtnenogpagkepfaaTreeB0
import Derived.Test.YtnenogpagkepfaaTreeLv
import Derived.Test.YtnenogpagkepfaaEach
set_option linter.unusedVariables false
set_option linter.unusedSimpArgs false
namespace Go.Proofs.Ytnenogpagkepfaa
open Go.RowKit

theorem callFunc_bs1 : ∀ args w, (callFunc 80 args).run Try.prog w = .ok (.enter 80 args) w := fun args w => by kernel_rfl
set_option maxHeartbeats 1000000 in
theorem bs1_any (m g W H : Nat) (f : Nat → Bool) (x y dx dy bm bx bY : Nat) (t1 t2 t3 : TypeId) (w : World) (M : Box w bm (.pointer (some ⟨m, 0, none⟩)) t1) (X : Box w bx (.int .i64 dx) t2) (Y : Box w bY (.int .i64 dy) t3) (I : Img w m g W H f) (hx : x < 100) (hy : y < 100) (hdx : dx < 100) (hdy : dy < 100) :
    Calls Try.prog 80 #[.int .i64 x, .int .i64 y, .pointer (some ⟨bm, 0, none⟩), .pointer (some ⟨bx, 0, none⟩), .pointer (some ⟨bY, 0, none⟩)] w fun e w' => e = .returned (.bool (px W H f ((x : Int) - dx) ((y : Int) - dy))) ∧ Below w.heap.size w w' := by
  have m0 := M.cell
  have x0 := X.cell
  have y0 := Y.cell
  have c1 := get_any m g W H f ((x : Int) - dx) ((y : Int) - dy) w I
  have w1' : IntKind.i64.wrap ((x : Int) - (dx : Int)) = (x : Int) - (dx : Int) := IntWalk.i64_in _ (by omega)
  have w2' : IntKind.i64.wrap ((y : Int) - (dy : Int)) = (y : Int) - (dy : Int) := IntWalk.i64_in _ (by omega)
  have C1 := Lib.hid c1; clear c1
  clear I M X Y
  go_enter Try.func80, Try.ntmps80
  go_wp2_with fail
  with_reducible (refine C1.out.mono ?_)
  rintro e w1 ⟨rfl, k, rfl⟩
  go_wp2
  go_ret
  exact ⟨rfl, bl_drewN _ _⟩
/-- The best place so far, as it lies. -/
def BsAt (B : Int × Int × Int) (v : Value) (wr : World) : Prop := ∃ bb, v = .slice (some ⟨bb, 0, none⟩) 3 3 ∧ Blk wr bb #[.int .i64 B.1, .int .i64 B.2.1, .int .i64 B.2.2] 2
structure BsW (w : World) (m g W H : Nat) (f : Nat → Bool) (b8 : Nat) (wr : World) : Prop where
  since : Since w wr
  img : Img wr m g W H f
  box : Box wr b8 (.pointer (some ⟨m, 0, none⟩)) 89
theorem BsW.bl {w : World} {m g W H : Nat} {f : Nat → Bool} {b8 : Nat} {wr w' : World} (h : BsW w m g W H f b8 wr) (hb : Below wr.heap.size wr w') : BsW w m g W H f b8 w' := ⟨h.since.bl hb, h.img.bl hb, h.box.bl hb⟩
def BsX (w : World) (m g W H : Nat) (f : Nat → Bool) (b8 : Nat) (C : Nat → Nat → Nat) (WX y b11 : Nat) (v i : Value) (wr : World) : Prop := ∃ x : Nat, x ≤ WX ∧ i = .int .i64 x ∧ BsAt (bsN C WX (y * WX + x)) v wr ∧ BsW w m g W H f b8 wr ∧ Box wr b11 (.int .i64 y) 2
theorem size_print {k : Nat} (hk : k ≤ 4) (f : Nat → Nat → Bool) : (bytesOf (qt k f 0 0).print).size ≤ 1000 := by
  have h1 := print_len k (qt k f 0 0) (qt_deep k _ 0 0)
  have h2 : 4 ^ k ≤ 4 ^ 4 := Nat.pow_le_pow_right (by omega) hk
  have h3 := bytesOf_size (qt k f 0 0).print
  omega
set_option maxRecDepth 100000 in
set_option maxHeartbeats 8000000 in
theorem bestShift_yes (p : Option Addr) (c : Nat) (ss : List ByteArray) (s : Int) (w : World) (hn : ss.length ≤ 1048576) (hs : ∀ s ∈ ss, s.size ≤ 1048576) (hr : Rd w p ss.length (strAt ss)) (hok : okPic ss = true) (hsd : sideB s = true) (hw1 : (wid ss : Int) ≤ s) (hw2 : (ss.length : Int) ≤ s) :
    Calls Try.prog 36 #[.agg #[.slice p ss.length c], .int .i64 s] w fun e w' => e = .returned (.tuple #[.int .i64 (bsR ss s).1, .int .i64 (bsR ss s).2.1, .int .i64 (bsR ss s).2.2, .bool true]) ∧ Below w.heap.size w w' := by
  have hy0 := bl_alloc w (.cells #[.slice p ss.length c] 38)
  have S := (Since.refl w).bl hy0
  have R := hr.bl hy0
  have c0 := imageOf_any p c ss _ hn hs R
  unfold ImgOut at c0
  simp only [hok, true_and, Bool.true_eq_false, false_and, false_or] at c0
  have hbo : bsOk ss s = true := by rw [bsOk, hok, hsd, decide_eq_true hw1, decide_eq_true hw2]; rfl
  have hres := bs_yes hbo
  obtain ⟨hN, hk⟩ := sideB_lg hsd
  have hNb := pow_le4 hk
  have c1 := fun w => sideOk_any s w
  simp only [hsd] at c1
  have hd := okPic_dims hok
  obtain ⟨hd1, hd2, hd3, hd4⟩ := hd
  have hCle := fun x y => bsC_le hk ss (2 ^ lg s) x y
  have hbd := bsN_bd (bsC ss (lg s) (2 ^ lg s)) hCle (2 ^ lg s - wid ss + 1)
  have hcnt : ∀ x y, cntTo (bytesOf (qt (lg s) (pf (2 ^ lg s) (2 ^ lg s) (bsF ss (2 ^ lg s) x y)) 0 0).print) (bytesOf (qt (lg s) (pf (2 ^ lg s) (2 ^ lg s) (bsF ss (2 ^ lg s) x y)) 0 0).print).size = bsC ss (lg s) (2 ^ lg s) x y := by
    intro x y
    rw [cntTo_all, cnt_print (lg s) _ 0 0 ByteArray.empty (qt_deep _ _ _ _)]
    rfl
  have hps := fun x y => size_print hk (pf (2 ^ lg s) (2 ^ lg s) (bsF ss (2 ^ lg s) x y))
  have cmk := fun (capb : Array Value) (x y : Nat) (w : World) hcall => made_any 80 capb (2 ^ lg s) (2 ^ lg s) (bsF ss (2 ^ lg s) x y) w hNb.1 hNb.2 hNb.1 hNb.2 callFunc_bs1 hcall
  have ctt := fun (m' g' x y : Nat) (w : World) (I : Img w m' g' (2 ^ lg s) (2 ^ lg s) (bsF ss (2 ^ lg s) x y)) => treeText_any m' g' _ _ _ (lg s) 0 0 0 0 s w I rfl rfl hN hk (by omega) (by omega)
  have hbf : ∀ x y dx dy, x < 2 ^ lg s → bsF ss (2 ^ lg s) dx dy (y * 2 ^ lg s + x) = px (wid ss) ss.length (bits ss) ((x : Int) - dx) ((y : Int) - dy) := by
    intro x y dx dy h
    rw [bsF, (at_mod h).1, (at_mod h).2]
  rw [hres]
  obtain ⟨C, eC⟩ : ∃ C, bsC ss (lg s) (2 ^ lg s) = C := ⟨_, rfl⟩
  rw [eC] at hbd hres ⊢
  simp only [eC] at hcnt hCle
  obtain ⟨TX, eTX⟩ : ∃ TX : Nat → Nat → ByteArray, (fun x y => bytesOf (qt (lg s) (pf (2 ^ lg s) (2 ^ lg s) (bsF ss (2 ^ lg s) x y)) 0 0).print) = TX := ⟨_, rfl⟩
  have eTX2 : ∀ x y, bytesOf (qt (lg s) (pf (2 ^ lg s) (2 ^ lg s) (bsF ss (2 ^ lg s) x y)) 0 0).print = TX x y := fun x y => congrFun (congrFun eTX x) y
  simp only [eTX2] at hcnt hps ctt
  clear eTX eTX2
  generalize bsF ss (2 ^ lg s) = BF at *
  obtain ⟨N, eN⟩ : ∃ N, 2 ^ lg s = N := ⟨_, rfl⟩
  rw [eN] at hN hNb hbd hres ⊢
  simp only [eN] at cmk ctt hbf
  rw [← hN] at cmk
  obtain ⟨hN1, hN2⟩ := hNb
  have hs1 : s ≤ (N : Int) := by omega
  have hs2 : (N : Int) ≤ s := by omega
  obtain ⟨WX, eWX⟩ : ∃ WX, N - wid ss + 1 = WX := ⟨_, rfl⟩
  obtain ⟨HY, eHY⟩ : ∃ HY, N - ss.length + 1 = HY := ⟨_, rfl⟩
  rw [eWX] at hbd hres
  rw [eHY] at hres
  rw [eWX, eHY]
  have hWX1 : WX + wid ss = N + 1 := by omega
  have hHY1 : HY + ss.length = N + 1 := by omega
  have hbd1 : bsN C WX 0 = (0, 0, -1) := rfl
  have hmul : (HY : Nat) * WX = HY * WX := rfl
  obtain ⟨RES, eRES⟩ : ∃ RES, bsN C WX (HY * WX) = RES := ⟨_, rfl⟩
  rw [eRES]
  have wW : IntKind.i64.wrap (s - (wid ss : Int)) = s - (wid ss : Int) := IntWalk.i64_in _ (by omega)
  have wH : IntKind.i64.wrap (s - (ss.length : Int)) = s - (ss.length : Int) := IntWalk.i64_in _ (by omega)
  have hWXi : s - (wid ss : Int) + 1 = (WX : Int) := by omega
  have hHYi : s - (ss.length : Int) + 1 = (HY : Int) := by omega
  have hg1 : decide (s < (wid ss : Int)) = false := by rw [decide_eq_false_iff_not]; omega
  have hg2 : decide (s < (ss.length : Int)) = false := by rw [decide_eq_false_iff_not]; omega
  have C0 := Lib.hid c0; clear c0
  have C1 := Lib.hid c1; clear c1
  have Hok := Lib.hid hok; clear hok
  have Hsd := Lib.hid hsd; clear hsd
  have Hbo := Lib.hid hbo; clear hbo
  have Hres := Lib.hid hres; clear hres
  have HN := Lib.hid hN; clear hN
  have Hbd := Lib.hid hbd; clear hbd
  have Hcnt := Lib.hid hcnt; clear hcnt
  have Hps := Lib.hid hps; clear hps
  have Cmk := Lib.hid cmk; clear cmk
  have Ctt := Lib.hid ctt; clear ctt
  have Hbf := Lib.hid hbf; clear hbf
  have EC := Lib.hid eC; clear eC
  have EN := Lib.hid eN; clear eN
  have ERES := Lib.hid eRES; clear eRES
  have HCle := Lib.hid hCle; clear hCle
  have Hbd1 := Lib.hid hbd1; clear hbd1
  have EWX := Lib.hid eWX; clear eWX
  have EHY := Lib.hid eHY; clear eHY
  have Hmul := Lib.hid hmul; clear hmul
  clear R hy0 hr hs
  go_enter Try.func36, Try.ntmps36
  go_wp2_with fail
  with_reducible (refine C0.out.mono ?_)
  rintro e w1 ⟨hb, m, g, rfl, I, hm, hg⟩
  have hya := bl_alloc w1 (.cells #[.pointer (some ⟨m, 0, none⟩)] 89)
  have J0 : BsW w m g (wid ss) ss.length (bits ss) w1.heap.size (w1.alloc (.cells #[.pointer (some ⟨m, 0, none⟩)] 89)) := ⟨(S.bl hb).bl hya, I.bl hya, Box.new _ _ _⟩
  have i0 := J0.img.c0
  have i1 := J0.img.c1
  clear hb hya I S
  go_wp2_with fail
  with_reducible (refine (C1.out _).mono ?_)
  rintro e w2 ⟨rfl, hb⟩
  replace J0 := J0.bl hb
  clear hb i0 i1
  have i0 := J0.img.c0
  have i1 := J0.img.c1
  have x8 := J0.box.cell
  go_upto_region 4 with (fail)
  have Bb := Blk.new w2 #[.int .i64 0, .int .i64 0, .int .i64 (-1)] 2
  have hyb := bl_alloc w2 (.cells #[.int .i64 0, .int .i64 0, .int .i64 (-1)] 2)
  replace J0 := J0.bl hyb
  have A0 : BsAt (bsN C WX 0) (.slice (some ⟨w2.heap.size, 0, none⟩) 3 3) (w2.alloc (.cells #[.int .i64 0, .int .i64 0, .int .i64 (-1)] 2)) := by rw [Hbd1.out]; exact ⟨_, rfl, Bb⟩
  clear i0 i1 x8
  have i0 := J0.img.c0
  have i1 := J0.img.c1
  have x8 := J0.box.cell
  clear hyb Bb
  go_wp2_with fail
  go_loopw [10, 52] (fun v i wr => ∃ y : Nat, y ≤ HY ∧ i = .int .i64 y ∧ BsAt (bsN C WX (y * WX)) v wr ∧ BsW w m g (wid ss) ss.length (bits ss) w1.heap.size wr) (fun _ i _ => HY - (intOf i).toNat)
  case atStart => exact ⟨0, Nat.zero_le _, rfl, by rw [Nat.zero_mul]; exact A0, J0⟩
  case round =>
    clear A0 J0 i0 i1 x8
    obtain ⟨y, hy, rfl, A, J⟩ := hrel
    have hy0 : (0 : Int) ≤ (y : Int) := Int.natCast_nonneg _
    have i0 := J.img.c0
    have i1 := J.img.c1
    have x8 := J.box.cell
    by_cases hyH : y < HY
    · have hy1 : (y : Int) < (HY : Int) := by omega
      obtain ⟨wo, rfl⟩ : ∃ wo : World, wo = wr := ⟨_, rfl⟩
      obtain ⟨bb, rfl, Bb⟩ := A
      have hya := bl_alloc wo (.cells #[.int .i64 y] 2)
      have Y0 := Box.new wo (.int .i64 y) 2
      have J0 := J.bl hya
      have A0 : BsAt (bsN C WX (y * WX + 0)) (.slice (some ⟨bb, 0, none⟩) 3 3) (wo.alloc (.cells #[.int .i64 y] 2)) := ⟨_, rfl, Bb.bl hya⟩
      clear hya Bb
      go_upto_region 8 with (fail)
      clear i0 i1 x8
      have i0 := J0.img.c0
      have i1 := J0.img.c1
      have x8 := J0.box.cell
      clear J
      go_wp2_with fail
      go_loopw [10, 62] (fun v i wr2 => BsX w m g (wid ss) ss.length (bits ss) w1.heap.size C WX y wo.heap.size v i wr2) (fun _ i _ => WX - (intOf i).toNat)
      case atStart => exact ⟨0, Nat.zero_le _, rfl, A0, J0, Y0⟩
      case round =>
        clear A0 J0 Y0 i0 i1 x8
        obtain ⟨x, hx, rfl, A, J, Y⟩ := hrel
        have hx0 : (0 : Int) ≤ (x : Int) := Int.natCast_nonneg _
        by_cases hxW : x < WX
        · have hx1 : (x : Int) < (WX : Int) := by omega
          obtain ⟨wi, rfl⟩ : ∃ wi : World, wi = wr := ⟨_, rfl⟩
          obtain ⟨bb, rfl, Bb⟩ := A
          have hst := bsN_at (C := C) (y := y) hxW
          have hbb := Hbd.out (y * WX + x)
          obtain ⟨⟨r1, r2, r3⟩, eB⟩ : ∃ B, bsN C WX (y * WX + x) = B := ⟨_, rfl⟩
          rw [eB] at hst hbb Bb
          obtain ⟨hb1, hb2⟩ := hbb
          simp only at hb1 hb2
          have hya := bl_alloc wi (.cells #[.int .i64 x] 2)
          have X0 := Box.new wi (.int .i64 x) 2
          have J1 := J.bl hya
          have Y1 := Y.bl hya
          have B1 := Bb.bl hya
          clear J Y Bb hya
          go_upto_region 11 with (fail)
          generalize wi.alloc (.cells #[.int .i64 x] 2) = wa at *
          have cm := Cmk.out #[.pointer (some ⟨w1.heap.size, 0, none⟩), .pointer (some ⟨wi.heap.size, 0, none⟩), .pointer (some ⟨wo.heap.size, 0, none⟩)] x y wa (fun x' y' w' h1 h2 hb => by
            rw [Hbf.out x' y' x y h1]
            exact bs1_any m g (wid ss) ss.length (bits ss) x' y' x y _ _ _ _ _ _ w' (J1.bl hb).box (X0.bl hb) (Y1.bl hb) (J1.bl hb).img (by omega) (by omega) (by omega) (by omega))
          have hTz := Hps.out x y
          have hTc := Hcnt.out x y
          have ct := fun m' g' w' I => Ctt.out m' g' x y w' I
          have hCl := HCle.out x y
          generalize TX x y = T at *
          generalize C x y = Cn at *
          have Cm := Lib.hid cm; clear cm
          have Ct := Lib.hid ct; clear ct
          have HTc := Lib.hid hTc; clear hTc
          have Hst := Lib.hid hst; clear hst
          have EB := Lib.hid eB; clear eB
          go_wp2_with fail
          with_reducible (refine Cm.out.mono ?_)
          rintro e w3 ⟨m', g', rfl, I', hm', hg', hb⟩
          replace J1 := J1.bl hb
          replace X0 := X0.bl hb
          replace Y1 := Y1.bl hb
          replace B1 := B1.bl hb
          clear hb
          go_wp2_with fail
          with_reducible (refine (Ct.out _ _ _ I').mono ?_)
          rintro e w4 ⟨rfl, hb⟩
          replace J1 := J1.bl hb
          replace X0 := X0.bl hb
          replace Y1 := Y1.bl hb
          replace B1 := B1.bl hb
          clear hb I'
          go_wp2_with fail
          go_loopw [14, 74] (fun v i wr3 => ∃ j : Nat, j ≤ T.size ∧ i = .int .i64 j ∧ v = .int .i64 (cntTo T j) ∧ wr3 = w4) (fun _ i _ => T.size - (intOf i).toNat)
          case atStart => exact ⟨0, Nat.zero_le _, rfl, rfl, by trivial⟩
          case round =>
            obtain ⟨j, hj, rfl, rfl, rfl⟩ := hrel
            have hj0 : (0 : Int) ≤ (j : Int) := Int.natCast_nonneg _
            have hcj := cntTo_le T j
            by_cases hjs : j < T.size
            · have hj1 : (j : Int) < (T.size : Int) := by omega
              have hcs := cntTo_succ hjs
              by_cases h35 : T[j] = 35
              · have t1 : ((T[j].toNat : Int) == 35) = true := by rw [h35]; rfl
                have o1 : ∀ w, Calls Try.prog 83 #[.bool true] w fun e w' => e = .returned (.int .i64 1) ∧ w' = w := fun w => oneIf_c true w
                have hc2 : cntTo T (j + 1) = cntTo T j + 1 := by rw [hcs, h35]; rfl
                have Hc2 := Lib.hid hc2; clear hc2
                have O1 := Lib.hid o1; clear o1
                have H35 := Lib.hid h35; clear h35
                clear hcs
                go_wp2_with fail
                with_reducible (refine (O1.out _).mono ?_)
                rintro e w5 ⟨rfl, rfl⟩
                go_wp2
                go_roundw
                case rel => exact ⟨j + 1, by omega, by go_num, by rw [Hc2.out]; go_num, by trivial⟩
                case measure => simp [intOf]; omega
              · have t1 : ((T[j].toNat : Int) == 35) = false := by
                  rw [← Bool.not_eq_true, beq_iff_eq]
                  intro e
                  exact h35 (UInt8.toNat_inj.1 (by have : (35 : UInt8).toNat = 35 := rfl; omega))
                by_cases h46 : T[j] = 46
                · have t2 : ((T[j].toNat : Int) == 46) = true := by rw [h46]; rfl
                  have o1 : ∀ w, Calls Try.prog 83 #[.bool true] w fun e w' => e = .returned (.int .i64 1) ∧ w' = w := fun w => oneIf_c true w
                  have hc2 : cntTo T (j + 1) = cntTo T j + 1 := by rw [hcs, h46]; rfl
                  have Hc2 := Lib.hid hc2; clear hc2
                  have O1 := Lib.hid o1; clear o1
                  have H46 := Lib.hid h46; clear h46
                  have H35 := Lib.hid h35; clear h35
                  clear hcs
                  go_wp2_with fail
                  with_reducible (refine (O1.out _).mono ?_)
                  rintro e w5 ⟨rfl, rfl⟩
                  go_wp2
                  go_roundw
                  case rel => exact ⟨j + 1, by omega, by go_num, by rw [Hc2.out]; go_num, by trivial⟩
                  case measure => simp [intOf]; omega
                · have t2 : ((T[j].toNat : Int) == 46) = false := by
                    rw [← Bool.not_eq_true, beq_iff_eq]
                    intro e
                    exact h46 (UInt8.toNat_inj.1 (by have : (46 : UInt8).toNat = 46 := rfl; omega))
                  have o1 : ∀ w, Calls Try.prog 83 #[.bool false] w fun e w' => e = .returned (.int .i64 0) ∧ w' = w := fun w => oneIf_c false w
                  have hlf : isLf T[j] = false := by simp [isLf, h35, h46]
                  have hc2 : cntTo T (j + 1) = cntTo T j := by rw [hcs, hlf]; rfl
                  have Hc2 := Lib.hid hc2; clear hc2
                  have O1 := Lib.hid o1; clear o1
                  have H46 := Lib.hid h46; clear h46
                  have H35 := Lib.hid h35; clear h35
                  have Hlf := Lib.hid hlf; clear hlf
                  clear hcs
                  go_wp2_with fail
                  with_reducible (refine (O1.out _).mono ?_)
                  rintro e w5 ⟨rfl, rfl⟩
                  go_wp2
                  go_roundw
                  case rel => exact ⟨j + 1, by omega, by go_num, by rw [Hc2.out], by trivial⟩
                  case measure => simp [intOf]; omega
            · obtain rfl : j = T.size := by omega
              rw [HTc.out]
              have z2 := B1.cell 2 rfl
              have zx := X0.cell
              have zy := Y1.cell
              have hCn : (Cn : Int) ≤ 1000 := by omega
              have hCn0 : (0 : Int) ≤ (Cn : Int) := Int.natCast_nonneg _
              by_cases hlt : r3 < 0 ∨ (Cn : Int) < r3
              · have hB2 := Hst.out.trans (bsStep_yes hlt)
                have By := Blk.new wr #[.int .i64 x, .int .i64 y, .int .i64 Cn] 2
                have hyy := bl_alloc wr (.cells #[.int .i64 x, .int .i64 y, .int .i64 Cn] 2)
                have J2 := J1.bl hyy
                have Y2 := Y1.bl hyy
                have A2 : BsAt (bsN C WX (y * WX + (x + 1))) (.slice (some ⟨wr.heap.size, 0, none⟩) 3 3) (wr.alloc (.cells #[.int .i64 x, .int .i64 y, .int .i64 Cn] 2)) := by rw [hB2]; exact ⟨_, rfl, By⟩
                clear hyy By B1 J1 Y1
                by_cases hn3 : r3 < 0
                · have HB2 := Lib.hid hB2; clear hB2
                  have Hlt := Lib.hid hlt; clear hlt
                  go_wp2
                  go_roundw
                  case rel => unfold BsX; exact ⟨x + 1, by omega, by go_num, A2, J2, Y2⟩
                  case measure => simp [intOf]; omega
                · have hn4 : (Cn : Int) < r3 := by omega
                  have HB2 := Lib.hid hB2; clear hB2
                  have Hlt := Lib.hid hlt; clear hlt
                  go_wp2
                  go_roundw
                  case rel => unfold BsX; exact ⟨x + 1, by omega, by go_num, A2, J2, Y2⟩
                  case measure => simp [intOf]; omega
              · have hB2 := Hst.out.trans (bsStep_no hlt)
                have hn3 : ¬ r3 < 0 := by omega
                have hn4 : ¬ (Cn : Int) < r3 := by omega
                have A2 : BsAt (bsN C WX (y * WX + (x + 1))) (.slice (some ⟨bb, 0, none⟩) 3 3) wr := by rw [hB2]; exact ⟨_, rfl, B1⟩
                clear B1
                have HB2 := Lib.hid hB2; clear hB2
                have Hlt := Lib.hid hlt; clear hlt
                go_wp2
                go_roundw
                case rel => unfold BsX; exact ⟨x + 1, by omega, by go_num, A2, J1, Y1⟩
                case measure => simp [intOf]; omega
        · obtain rfl : x = WX := by omega
          obtain ⟨bb, rfl, Bb⟩ := A
          have A2 : BsAt (bsN C x ((y + 1) * x)) (.slice (some ⟨bb, 0, none⟩) 3 3) wr := ⟨_, rfl, by rw [Nat.add_mul, Nat.one_mul]; exact Bb⟩
          clear Bb Y
          go_wp2
          go_roundw
          case rel => exact ⟨y + 1, by omega, by go_num, A2, J⟩
          case measure => simp [intOf]; omega
    · obtain rfl : y = HY := by omega
      obtain ⟨bb, rfl, Bb⟩ := A
      rw [ERES.out] at Bb
      have SF := J.since
      have z0 := Bb.cell 0 rfl
      have z1 := Bb.cell 1 rfl
      have z2 := Bb.cell 2 rfl
      clear Bb J
      go_upto_region 22 with (fail)
      go_quiet (fail)
      go_wp2
      refine bodyPost_ret (v := .tuple #[.int .i64 RES.1, .int .i64 RES.2.1, .int .i64 RES.2.2, .bool true]) (by simp [results, Try.results36, go_sem]) rfl ⟨rfl, (SF.bl (bl_drewN _ _)).below⟩
set_option maxRecDepth 100000 in
set_option maxHeartbeats 4000000 in
theorem bestShift_any (p : Option Addr) (c : Nat) (ss : List ByteArray) (s : Int) (w : World) (hn : ss.length ≤ 1048576) (hs : ∀ s ∈ ss, s.size ≤ 1048576) (hr : Rd w p ss.length (strAt ss)) (h0 : -9223372036854775808 ≤ s) (h1 : s ≤ 9223372036854775807) :
    Calls Try.prog 36 #[.agg #[.slice p ss.length c], .int .i64 s] w fun e w' => e = .returned (.tuple #[.int .i64 (bsR ss s).1, .int .i64 (bsR ss s).2.1, .int .i64 (bsR ss s).2.2, .bool (bsOk ss s)]) ∧ Below w.heap.size w w' := by
  cases hb : bsOk ss s
  rotate_left
  · have h := hb
    simp only [bsOk, Bool.and_eq_true, decide_eq_true_eq] at h
    exact bestShift_yes p c ss s w hn hs hr h.1.1.1 h.1.1.2 h.1.2 h.2
  · rw [bs_no hb]
    have hy0 := bl_alloc w (.cells #[.slice p ss.length c] 38)
    have S := (Since.refl w).bl hy0
    have R := hr.bl hy0
    have c0 := imageOf_any p c ss _ hn hs R
    unfold ImgOut at c0
    have hbo : (okPic ss && sideB s && decide ((wid ss : Int) ≤ s) && decide ((ss.length : Int) ≤ s)) = false := hb
    cases hok : okPic ss
    · simp only [hok, true_and, Bool.false_eq_true, false_and, or_false] at c0
      have C0 := Lib.hid c0; clear c0
      have Hok := Lib.hid hok; clear hok
      have Hb := Lib.hid hb; clear hb
      have Hbo := Lib.hid hbo; clear hbo
      clear R hy0 hr hs
      go_enter Try.func36, Try.ntmps36
      go_wp2_with fail
      with_reducible (refine C0.out.mono ?_)
      rintro e w1 ⟨hb, rfl⟩
      have SF := (S.bl hb).alloc (.cells #[.pointer none] 89)
      clear hb
      go_wp2
      refine bodyPost_ret (v := .tuple #[.int .i64 0, .int .i64 0, .int .i64 0, .bool false]) (by simp [results, Try.results36, go_sem]) rfl ⟨rfl, SF.below⟩
    · simp only [hok, true_and, Bool.true_eq_false, false_and, false_or] at c0
      have c1 := fun w => sideOk_any s w
      cases hsd : sideB s
      · simp only [hsd] at c1
        have C0 := Lib.hid c0; clear c0
        have Hok := Lib.hid hok; clear hok
        have Hb := Lib.hid hb; clear hb
        have Hbo := Lib.hid hbo; clear hbo
        have C1 := Lib.hid c1; clear c1
        have Hsd := Lib.hid hsd; clear hsd
        clear R hy0 hr hs
        go_enter Try.func36, Try.ntmps36
        go_wp2_with fail
        with_reducible (refine C0.out.mono ?_)
        rintro e w1 ⟨hb, m, g, rfl, I, hm, hg⟩
        replace S := (S.bl hb).alloc (.cells #[.pointer (some ⟨m, 0, none⟩)] 89)
        clear hb I
        go_wp2_with fail
        with_reducible (refine (C1.out _).mono ?_)
        rintro e w2 ⟨rfl, hb⟩
        have SF := S.bl hb
        go_wp2
        refine bodyPost_ret (v := .tuple #[.int .i64 0, .int .i64 0, .int .i64 0, .bool false]) (by simp [results, Try.results36, go_sem]) rfl ⟨rfl, SF.below⟩
      · simp only [hsd] at c1
        have hd := okPic_dims hok
        obtain ⟨hd1, hd2, hd3, hd4⟩ := hd
        rw [hok, hsd, Bool.true_and, Bool.true_and, Bool.and_eq_false_iff, decide_eq_false_iff_not, decide_eq_false_iff_not] at hbo
        have hs16 : s ≤ 16 ∧ 1 ≤ s := by
          obtain ⟨hN, hk⟩ := sideB_lg hsd
          have := pow_le4 hk
          omega
        obtain ⟨hs1, hs2⟩ := hs16
        by_cases hw1 : s < (wid ss : Int)
        · have hg1 : decide (s < (wid ss : Int)) = true := decide_eq_true hw1
          have C0 := Lib.hid c0; clear c0
          have Hok := Lib.hid hok; clear hok
          have Hb := Lib.hid hb; clear hb
          have Hbo := Lib.hid hbo; clear hbo
          have C1 := Lib.hid c1; clear c1
          have Hsd := Lib.hid hsd; clear hsd
          clear R hy0 hr hs
          go_enter Try.func36, Try.ntmps36
          go_wp2_with fail
          with_reducible (refine C0.out.mono ?_)
          rintro e w1 ⟨hb, m, g, rfl, I, hm, hg⟩
          have hya := bl_alloc w1 (.cells #[.pointer (some ⟨m, 0, none⟩)] 89)
          have J0 : BsW w m g (wid ss) ss.length (bits ss) w1.heap.size (w1.alloc (.cells #[.pointer (some ⟨m, 0, none⟩)] 89)) := ⟨(S.bl hb).bl hya, I.bl hya, Box.new _ _ _⟩
          clear hb hya I S
          go_wp2_with fail
          with_reducible (refine (C1.out _).mono ?_)
          rintro e w2 ⟨rfl, hb⟩
          replace J0 := J0.bl hb
          clear hb
          have i0 := J0.img.c0
          have i1 := J0.img.c1
          have x8 := J0.box.cell
          have SF := J0.since
          clear J0
          go_wp2
          refine bodyPost_ret (v := .tuple #[.int .i64 0, .int .i64 0, .int .i64 0, .bool false]) (by simp [results, Try.results36, go_sem]) rfl ⟨rfl, SF.below⟩
        · have hw2 : s < (ss.length : Int) := by omega
          have hg1 : decide (s < (wid ss : Int)) = false := decide_eq_false hw1
          have hg2 : decide (s < (ss.length : Int)) = true := decide_eq_true hw2
          have C0 := Lib.hid c0; clear c0
          have Hok := Lib.hid hok; clear hok
          have Hb := Lib.hid hb; clear hb
          have Hbo := Lib.hid hbo; clear hbo
          have C1 := Lib.hid c1; clear c1
          have Hsd := Lib.hid hsd; clear hsd
          clear R hy0 hr hs
          go_enter Try.func36, Try.ntmps36
          go_wp2_with fail
          with_reducible (refine C0.out.mono ?_)
          rintro e w1 ⟨hb, m, g, rfl, I, hm, hg⟩
          have hya := bl_alloc w1 (.cells #[.pointer (some ⟨m, 0, none⟩)] 89)
          have J0 : BsW w m g (wid ss) ss.length (bits ss) w1.heap.size (w1.alloc (.cells #[.pointer (some ⟨m, 0, none⟩)] 89)) := ⟨(S.bl hb).bl hya, I.bl hya, Box.new _ _ _⟩
          clear hb hya I S
          go_wp2_with fail
          with_reducible (refine (C1.out _).mono ?_)
          rintro e w2 ⟨rfl, hb⟩
          replace J0 := J0.bl hb
          clear hb
          have i0 := J0.img.c0
          have i1 := J0.img.c1
          have x8 := J0.box.cell
          have SF := J0.since
          clear J0
          go_wp2
          refine bodyPost_ret (v := .tuple #[.int .i64 0, .int .i64 0, .int .i64 0, .bool false]) (by simp [results, Try.results36, go_sem]) rfl ⟨rfl, SF.below⟩
end Go.Proofs.Ytnenogpagkepfaa
