/- Contract of the reference's BestShift. -/
import Derived.Test.YtnenogpagkepfaaTreeB0
import Derived.Test.YtnenogpagkepfaaTold
import Derived.Test.YtnenogpagkepfaaSpecMk
set_option linter.unusedVariables false
set_option linter.unusedSimpArgs false
namespace Go.Proofs.Ytnenogpagkepfaa
open Go.RowKit

/-- The best place so far, in variables. -/
structure SbAt (B : Int × Int × Int) (u v t : Value) : Prop where
  a : u = .int .i64 B.1
  b : v = .int .i64 B.2.1
  c : t = .int .i64 B.2.2
structure SbW (w : World) (a : Nat) (p : Option Addr) (c : Nat) (ss : List ByteArray) (wr : World) : Prop where
  since : Since w wr
  pic : PicAt wr a p c ss
theorem SbW.bl {w : World} {a : Nat} {p : Option Addr} {c : Nat} {ss : List ByteArray} {wr w' : World} (h : SbW w a p c ss wr) (hb : Below wr.heap.size wr w') : SbW w a p c ss w' := ⟨h.since.bl hb, h.pic.bl hb⟩
def SbX (w : World) (a : Nat) (p : Option Addr) (c : Nat) (ss : List ByteArray) (C : Nat → Nat → Nat) (WX y : Nat) (u v t i : Value) (wr : World) : Prop := ∃ x : Nat, x ≤ WX ∧ i = .int .i64 x ∧ SbAt (bsN C WX (y * WX + x)) u v t ∧ SbW w a p c ss wr
/-- The square while it is filled. -/
structure SbF (w wi : World) (g NN : Nat) (F : Nat → Bool) (wr : World) : Prop where
  below : Below wi.heap.size wi wr
  row : Bools wr g NN F
def SbY (w wi : World) (g NN N W : Nat) (f : Nat → Bool) (dx dy H : Nat) (i : Value) (wr : World) : Prop := ∃ j : Nat, j ≤ H ∧ i = .int .i64 j ∧ SbF w wi g NN (flF W f N dx dy j 0) wr
def SbZ (w wi : World) (g NN N W : Nat) (f : Nat → Bool) (dx dy j : Nat) (i : Value) (wr : World) : Prop := ∃ q : Nat, q ≤ W ∧ i = .int .i64 q ∧ SbF w wi g NN (flF W f N dx dy j q) wr
set_option maxRecDepth 100000 in
set_option maxHeartbeats 8000000 in
theorem sBestShift_yes (p : Option Addr) (c : Nat) (ss : List ByteArray) (s : Int) (w : World) (hn : ss.length ≤ 1048576) (hs : ∀ s ∈ ss, s.size ≤ 1048576) (hr : Rd w p ss.length (strAt ss)) (hok : okPic ss = true) (hsd : sideB s = true) (hw1 : (wid ss : Int) ≤ s) (hw2 : (ss.length : Int) ≤ s) :
    Calls Try.prog 35 #[.agg #[.slice p ss.length c], .int .i64 s] w fun e w' => e = .returned (.tuple #[.int .i64 (bsR ss s).1, .int .i64 (bsR ss s).2.1, .int .i64 (bsR ss s).2.2, .bool true]) ∧ Below w.heap.size w w' := by
  have hy0 := bl_alloc w (.cells #[.slice p ss.length c] 38)
  have S := (Since.refl w).bl hy0
  have R := hr.bl hy0
  have hbox : (w.alloc (.cells #[.slice p ss.length c] 38)).cell? ⟨w.heap.size, 0, none⟩ = some (.slice p ss.length c) := by simp
  have c0 := l01Is_any w.heap.size p c ss _ hn hs hbox R
  rw [hok] at c0
  have P0 : PicAt (w.alloc (.cells #[.slice p ss.length c] 38)) w.heap.size p c ss := ⟨hok, hbox, R⟩
  have J0 : SbW w w.heap.size p c ss (w.alloc (.cells #[.slice p ss.length c] 38)) := ⟨S, P0⟩
  have hbo : bsOk ss s = true := by rw [bsOk, hok, hsd, decide_eq_true hw1, decide_eq_true hw2]; rfl
  have hres := bs_yes hbo
  obtain ⟨hN, hk⟩ := sideB_lg hsd
  have hNb := pow_le4 hk
  have c1 := fun w => l02Side_any s w
  simp only [hsd] at c1
  have k2 := fun w' h => l01Width_any w.heap.size p c ss w' h
  have k3 := fun w' h => l01Height_any w.heap.size p c ss w' h
  have k4 := fun x y w' h => l01Black_any w.heap.size p c ss x y w' h
  have hd := okPic_dims hok
  obtain ⟨hd1, hd2, hd3, hd4⟩ := hd
  have hCle := fun x y => bsC_le hk ss (2 ^ lg s) x y
  have hbd := bsN_bd (bsC ss (lg s) (2 ^ lg s)) hCle (2 ^ lg s - wid ss + 1)
  have hNN := mul_256 hNb.2 hNb.2
  have cmk := fun (g : Nat) (F : Nat → Bool) (w : World) (h : Rd w (some ⟨g, 0, none⟩) (2 ^ lg s * 2 ^ lg s) (fun i => .bool (F i))) => l01Make_any (some ⟨g, 0, none⟩) (2 ^ lg s) (2 ^ lg s) (2 ^ lg s * 2 ^ lg s) F w hNb.1 hNb.2 hNb.2 h
  have clv : ∀ (b : Nat) (q : Option Addr) (d : Nat) (F : Nat → Bool) (w' : World) (P : PicAt w' b q d (render (2 ^ lg s) (2 ^ lg s) F)), Calls Try.prog 78 #[.pointer (some ⟨b, 0, none⟩), .int .i64 0, .int .i64 0, .int .i64 s, .string ⟨#[]⟩] w' (LsOut ((qt (lg s) (pf (wid (render (2 ^ lg s) (2 ^ lg s) F)) (render (2 ^ lg s) (2 ^ lg s) F).length (bits (render (2 ^ lg s) (2 ^ lg s) F))) 0 0).leaves (lg s) 0 0 ByteArray.empty) w') := fun (b : Nat) (q : Option Addr) (d : Nat) (F : Nat → Bool) (w' : World) (P : PicAt w' b q d (render (2 ^ lg s) (2 ^ lg s) F)) => l02Leaves_any b q d (render (2 ^ lg s) (2 ^ lg s) F) (lg s) 0 0 0 0 s ByteArray.empty w' P rfl rfl hN hk (by omega) (by omega) (by have : ByteArray.empty.size = 0 := rfl; omega)
  have hlen : ∀ (F : Nat → Bool) dx dy, (∀ i, i < 2 ^ lg s * 2 ^ lg s → F i = bsF ss (2 ^ lg s) dx dy i) → ((qt (lg s) (pf (wid (render (2 ^ lg s) (2 ^ lg s) F)) (render (2 ^ lg s) (2 ^ lg s) F).length (bits (render (2 ^ lg s) (2 ^ lg s) F))) 0 0).leaves (lg s) 0 0 ByteArray.empty).length = bsC ss (lg s) (2 ^ lg s) dx dy := by
    intro F dx dy h
    rw [wid_render hNb.1, render_len, bsC]
    rw [show pf (2 ^ lg s) (2 ^ lg s) (bits (render (2 ^ lg s) (2 ^ lg s) F)) = pf (2 ^ lg s) (2 ^ lg s) (bsF ss (2 ^ lg s) dx dy) from funext fun x => funext fun y => (px_render hNb.1 _ _).trans (px_congr h _ _)]
  have hokr : ∀ F, okPic (render (2 ^ lg s) (2 ^ lg s) F) = true := fun F => okPic_render F hNb.1 hNb.2 hNb.1 hNb.2
  have hflE := fun dx dy t => fl_end (ss := ss) (N := 2 ^ lg s) (dx := dx) (dy := dy) (t := t)
  have hnn : s * s = ((2 ^ lg s * 2 ^ lg s : Nat) : Int) := by rw [Int.natCast_mul, ← hN]
  have hmk := run_make_row' (P := Try.prog) 62 4 (.bool false) 1 Try.underlying62 info_bool' rfl .i64 .i64 (2 ^ lg s * 2 ^ lg s) (by omega) (by omega)
  rw [← hnn] at hmk
  rw [hres]
  obtain ⟨C, eC⟩ : ∃ C, bsC ss (lg s) (2 ^ lg s) = C := ⟨_, rfl⟩
  rw [eC] at hbd hres ⊢
  simp only [eC] at hlen hCle
  obtain ⟨BF, eBF⟩ : ∃ BF, bsF ss (2 ^ lg s) = BF := ⟨_, rfl⟩
  simp only [eBF] at hlen hflE
  obtain ⟨LL, eLL⟩ : ∃ LL : (Nat → Bool) → List QLeaf, (fun F => (qt (lg s) (pf (wid (render (2 ^ lg s) (2 ^ lg s) F)) (render (2 ^ lg s) (2 ^ lg s) F).length (bits (render (2 ^ lg s) (2 ^ lg s) F))) 0 0).leaves (lg s) 0 0 ByteArray.empty) = LL := ⟨_, rfl⟩
  have eLL2 : ∀ F, (qt (lg s) (pf (wid (render (2 ^ lg s) (2 ^ lg s) F)) (render (2 ^ lg s) (2 ^ lg s) F).length (bits (render (2 ^ lg s) (2 ^ lg s) F))) 0 0).leaves (lg s) 0 0 ByteArray.empty = LL F := fun F => congrFun eLL F
  simp only [eLL2] at clv hlen
  unfold LsOut at clv
  clear eLL eLL2
  obtain ⟨N, eN⟩ : ∃ N, 2 ^ lg s = N := ⟨_, rfl⟩
  rw [eN] at hN hNb hbd hres hNN hnn ⊢
  simp only [eN] at cmk clv hlen hokr hflE hmk
  rw [← hN] at cmk
  have hidx : ∀ (y j x q : Nat), x + q < N → y + j < N → ∃ Z : Int, ((y : Int) + (j : Int)) * s = Z ∧ 0 ≤ Z ∧ Z ≤ 256 ∧ Z + (x : Int) + (q : Int) < ((N * N : Nat) : Int) ∧ (Z + (x : Int) + (q : Int)).toNat = (y + j) * N + (x + q) := by
    intro y j x q h1 h2
    obtain ⟨e0, e1, e2, e3⟩ := at_int h1 h2 hNb.2 hNb.2
    have e4 : ((y : Int) + (j : Int)) * s = ((y + j : Nat) : Int) * (N : Int) := by rw [hN, Int.natCast_add]
    refine ⟨_, rfl, ?_, ?_, ?_, ?_⟩
    · rw [e4]; exact e0
    · rw [e4]; exact e1
    · rw [e4]; omega
    · rw [e4, Int.add_assoc, ← Int.natCast_add]; exact e3
  obtain ⟨NN, eNN⟩ : ∃ NN, N * N = NN := ⟨_, rfl⟩
  rw [eNN] at hNN hnn
  simp only [eNN] at cmk clv hlen hmk hidx
  obtain ⟨hN1, hN2⟩ := hNb
  have hs1 : s ≤ (N : Int) := by omega
  have hs2 : (N : Int) ≤ s := by omega
  obtain ⟨WX, eWX⟩ : ∃ WX, N - wid ss + 1 = WX := ⟨_, rfl⟩
  obtain ⟨HY, eHY⟩ : ∃ HY, N - ss.length + 1 = HY := ⟨_, rfl⟩
  rw [eWX] at hbd hres
  rw [eHY] at hres
  rw [eWX, eHY]
  have hWX1 : WX + wid ss = N + 1 := by omega
  have hHY1 : HY + ss.length = N + 1 := by omega
  have hbd1 : bsN C WX 0 = (0, 0, -1) := rfl
  obtain ⟨RES, eRES⟩ : ∃ RES, bsN C WX (HY * WX) = RES := ⟨_, rfl⟩
  rw [eRES]
  have hg1 : decide (s < (wid ss : Int)) = false := by rw [decide_eq_false_iff_not]; omega
  have hg2 : decide (s < (ss.length : Int)) = false := by rw [decide_eq_false_iff_not]; omega
  have hnn1 : s * s ≤ 256 := by omega
  have hnn0 : 0 ≤ s * s := by omega
  have C0 := Lib.hid c0; clear c0
  have C1 := Lib.hid c1; clear c1
  have Hok := Lib.hid hok; clear hok
  have Hsd := Lib.hid hsd; clear hsd
  have Hbo := Lib.hid hbo; clear hbo
  have Hres := Lib.hid hres; clear hres
  have HN := Lib.hid hN; clear hN
  have Hbd := Lib.hid hbd; clear hbd
  have K2 := Lib.hid k2; clear k2
  have K3 := Lib.hid k3; clear k3
  have K4 := Lib.hid k4; clear k4
  have Cmk := Lib.hid cmk; clear cmk
  have Clv := Lib.hid clv; clear clv
  have Hlen := Lib.hid hlen; clear hlen
  have Hokr := Lib.hid hokr; clear hokr
  have HflE := Lib.hid hflE; clear hflE
  have Hmk := Lib.hid hmk; clear hmk
  have EC := Lib.hid eC; clear eC
  have EBF := Lib.hid eBF; clear eBF
  have EN := Lib.hid eN; clear eN
  have ERES := Lib.hid eRES; clear eRES
  have HCle := Lib.hid hCle; clear hCle
  have Hbd1 := Lib.hid hbd1; clear hbd1
  have EWX := Lib.hid eWX; clear eWX
  have EHY := Lib.hid eHY; clear eHY
  have Hnn := Lib.hid hnn; clear hnn
  have Hidx := Lib.hid hidx; clear hidx
  have ENN := Lib.hid eNN; clear eNN
  clear R hy0 hr hs S P0 hbox
  go_enter Try.func35, Try.ntmps35
  go_wp2_with fail
  with_reducible (refine C0.out.mono ?_)
  rintro e w1 ⟨rfl, n0, rfl⟩
  replace J0 := J0.bl (bl_drewN _ n0)
  go_wp2_with fail
  with_reducible (refine (C1.out _).mono ?_)
  rintro e w2 ⟨rfl, rfl⟩
  go_wp2_with fail
  with_reducible (refine (K2.out _ J0.pic).mono ?_)
  rintro e w2 ⟨rfl, rfl⟩
  go_wp2_with fail
  with_reducible (refine (K3.out _ J0.pic).mono ?_)
  rintro e w2 ⟨rfl, rfl⟩
  go_wp2_with fail
  go_loopw [8, 9, 10, 11] (fun u v t i wr => ∃ y : Nat, y ≤ HY ∧ i = .int .i64 y ∧ SbAt (bsN C WX (y * WX)) u v t ∧ SbW w w.heap.size p c ss wr) (fun _ _ _ i _ => HY - (intOf i).toNat)
  case atStart => exact ⟨0, Nat.zero_le _, rfl, by rw [Nat.zero_mul, Hbd1.out]; exact ⟨rfl, rfl, rfl⟩, J0⟩
  case round =>
    clear J0
    obtain ⟨y, hy, rfl, ⟨ha, hb, hc⟩, J⟩ := hrel
    obtain ⟨⟨r1, r2, r3⟩, eB⟩ : ∃ B, bsN C WX (y * WX) = B := ⟨_, rfl⟩
    rw [eB] at ha hb hc
    simp only at ha hb hc
    subst ha hb hc
    have hy0 : (0 : Int) ≤ (y : Int) := Int.natCast_nonneg _
    have EB := Lib.hid eB; clear eB
    go_wp2_with fail
    with_reducible (refine (K3.out _ J.pic).mono ?_)
    rintro e w2 ⟨rfl, rfl⟩
    by_cases hyH : y < HY
    · have hy1 : decide ((y : Int) + (ss.length : Int) ≤ s) = true := by rw [decide_eq_true_eq]; omega
      have hy2 : (y : Int) + (ss.length : Int) ≤ s := by omega
      go_wp2_with fail
      go_loopw [8, 9, 10, 12] (fun u v t i wr2 => SbX w w.heap.size p c ss C WX y u v t i wr2) (fun _ _ _ i _ => WX - (intOf i).toNat)
      case atStart => exact ⟨0, Nat.zero_le _, rfl, by rw [Nat.add_zero, EB.out]; exact ⟨rfl, rfl, rfl⟩, J⟩
      case round =>
        clear J EB
        obtain ⟨x, hx, rfl, ⟨ha, hb, hc⟩, J⟩ := hrel
        have hbb := Hbd.out (y * WX + x)
        obtain ⟨⟨q1, q2, q3⟩, eB⟩ : ∃ B, bsN C WX (y * WX + x) = B := ⟨_, rfl⟩
        rw [eB] at ha hb hc hbb
        simp only at ha hb hc hbb
        obtain ⟨hb1, hb2⟩ := hbb
        subst ha hb hc
        have hx0 : (0 : Int) ≤ (x : Int) := Int.natCast_nonneg _
        go_wp2_with fail
        with_reducible (refine (K2.out _ J.pic).mono ?_)
        rintro e w2 ⟨rfl, rfl⟩
        by_cases hxW : x < WX
        · have hx1 : decide ((x : Int) + (wid ss : Int) ≤ s) = true := by rw [decide_eq_true_eq]; omega
          have hx2 : (x : Int) + (wid ss : Int) ≤ s := by omega
          have hst := bsN_at (C := C) (y := y) hxW
          rw [eB] at hst
          obtain ⟨wi, rfl⟩ : ∃ wi : World, wi = wr := ⟨_, rfl⟩
          have EB := Lib.hid eB; clear eB
          have Hst := Lib.hid hst; clear hst
          go_upto_region 12 with (fail)
          go_upto_region 13 with (fail)
          rw [Hmk.out]
          go_simp
          have hya := bl_alloc wi (.cells (madeCells #[.bool false] NN) 4)
          have Q0 : Bools (wi.alloc (.cells (madeCells #[.bool false] NN) 4)) wi.heap.size NN (fun _ => false) := ⟨_, _, Nat.le_refl _, World.rowIs_made wi (.bool false) NN 4, fun i _ => rfl⟩
          have F0 : SbF w wi wi.heap.size NN (flF (wid ss) (bits ss) N x y 0 0) (wi.alloc (.cells (madeCells #[.bool false] NN) 4)) := ⟨hya, Q0.congr (fun i _ => (fl_start _ _ _ _ _ _).symm)⟩
          clear hya Q0
          go_wp2_with fail
          go_loopw [14] (fun i wr => SbY w wi wi.heap.size NN N (wid ss) (bits ss) x y ss.length i wr) (fun i _ => ss.length - (intOf i).toNat)
          case atStart => exact ⟨0, Nat.zero_le _, rfl, F0⟩
          case round =>
            clear F0
            obtain ⟨j, hj, rfl, F⟩ := hrel
            have hj0 : (0 : Int) ≤ (j : Int) := Int.natCast_nonneg _
            have Pj := J.pic.bl F.below
            go_wp2_with fail
            with_reducible (refine (K3.out _ Pj).mono ?_)
            rintro e w2 ⟨rfl, rfl⟩
            by_cases hjH : j < ss.length
            · have hj1 : (j : Int) < (ss.length : Int) := by omega
              go_wp2_with fail
              go_loopw [15] (fun i wr => SbZ w wi wi.heap.size NN N (wid ss) (bits ss) x y j i wr) (fun i _ => wid ss - (intOf i).toNat)
              case atStart => exact ⟨0, Nat.zero_le _, rfl, F⟩
              case round =>
                clear F Pj
                obtain ⟨q, hq, rfl, F⟩ := hrel
                have hq0 : (0 : Int) ≤ (q : Int) := Int.natCast_nonneg _
                have Pj := J.pic.bl F.below
                go_wp2_with fail
                with_reducible (refine (K2.out _ Pj).mono ?_)
                rintro e w2 ⟨rfl, rfl⟩
                by_cases hqW : q < wid ss
                · have hq1 : (q : Int) < (wid ss : Int) := by omega
                  obtain ⟨Z, eZ, hZ0, hZ1, hZ2, hZ3⟩ := Hidx.out y j x q (by omega) (by omega)
                  have kb := K4.out (q : Int) (j : Int) wr Pj
                  rw [px_at hqW hjH] at kb
                  have F2 := fun n => F.row.bl (bl_drewN wr n)
                  have hsb := F.below
                  have hgl := F.row.lt
                  have hff := fun n => (F2 n).frozen
                  have hcell := fun n => (F2 n).cell (i := (y + j) * N + (x + q)) (by omega)
                  have hset := fun t => fl_set (W := wid ss) (f := bits ss) (N := N) (dx := x) (dy := y) (j := j) (c := q) (t := t) hqW (by omega)
                  have Kb := Lib.hid kb; clear kb
                  have Hset := Lib.hid hset; clear hset
                  clear F
                  go_wp2_with fail
                  with_reducible (refine Kb.out.mono ?_)
                  rintro e w3 ⟨rfl, n, rfl⟩
                  have F3 := ((F2 n).set ((y + j) * N + (x + q)) (bits ss (j * wid ss + q))).congr (f' := flF (wid ss) (bits ss) N x y j (q + 1)) (fun t _ => Hset.out t)
                  have hf := hff n
                  have hcl := hcell n
                  clear hff hcell F2
                  have hbl3 : Below wi.heap.size wi ((wr.drewN n).setCell ⟨wi.heap.size, (y + j) * N + (x + q), none⟩ (.bool (bits ss (j * wid ss + q)))) := (below_drewN hsb n).setCell (p := ⟨wi.heap.size, (y + j) * N + (x + q), none⟩) (Nat.le_refl _) _
                  go_wp2
                  go_roundw
                  case rel => unfold SbZ; exact ⟨q + 1, by omega, by go_num, ⟨hbl3, F3⟩⟩
                  case measure => simp [intOf]; omega
                · obtain rfl : q = wid ss := by omega
                  have F2 : SbF w wi wi.heap.size NN (flF (wid ss) (bits ss) N x y (j + 1) 0) wr := ⟨F.below, F.row.congr (fun t _ => fl_row _ _ _ _ _ _ _)⟩
                  clear F Pj
                  go_wp2
                  go_roundw
                  case rel => unfold SbY; exact ⟨j + 1, by omega, by go_num, F2⟩
                  case measure => simp [intOf]; omega
            · obtain rfl : j = ss.length := by omega
              have G := F.row.congr (f' := BF x y) (fun t _ => HflE.out x y t)
              have hL := Hlen.out (BF x y) x y (fun i _ => rfl)
              have cm := Cmk.out wi.heap.size (BF x y) wr G.rd
              have hok2 := Hokr.out (BF x y)
              have cl := fun b q d w' P => Clv.out b q d (BF x y) w' P
              obtain ⟨L, eL⟩ : ∃ L, render N N (BF x y) = L := ⟨_, rfl⟩
              rw [eL] at cm hok2
              simp only [eL] at cl
              have J2 := J.bl F.below
              have hCl := HCle.out x y
              generalize LL (BF x y) = LB at *
              generalize C x y = Cn at *
              have Cm := Lib.hid cm; clear cm
              have Hok2 := Lib.hid hok2; clear hok2
              have Cl := Lib.hid cl; clear cl
              have EL := Lib.hid eL; clear eL
              have HL := Lib.hid hL; clear hL
              clear F G Pj
              go_wp2_with fail
              with_reducible (refine Cm.out.mono ?_)
              rintro e w3 ⟨v, rfl, O, hb⟩
              obtain ⟨q', d', rfl⟩ := O.form
              have Pn : PicAt (w3.alloc (.cells #[.slice q' L.length d'] 38)) w3.heap.size q' d' L := ⟨Hok2.out, by simp, O.rd.alloc _⟩
              have J3 := (J2.bl hb).bl (bl_alloc w3 (.cells #[.slice q' L.length d'] 38))
              clear J2 hb O
              go_wp2_with fail
              with_reducible (refine (Cl.out _ _ _ _ Pn).mono ?_)
              rintro e w4 ⟨v, rfl, O, hb⟩
              obtain ⟨q'', d'', rfl⟩ := O.form
              have J4 := J3.bl hb
              clear hb O Pn J3
              rw [HL.out]
              have hCn : (Cn : Int) ≤ 1000 := by omega
              have hCn0 : (0 : Int) ≤ (Cn : Int) := Int.natCast_nonneg _
              by_cases hlt : q3 < 0 ∨ (Cn : Int) < q3
              · have hB2 := Hst.out.trans (bsStep_yes hlt)
                by_cases hn3 : q3 < 0
                · have HB2 := Lib.hid hB2; clear hB2
                  have Hlt := Lib.hid hlt; clear hlt
                  go_wp2
                  go_roundw
                  case rel => unfold SbX; exact ⟨x + 1, by omega, by go_num, by rw [HB2.out]; exact ⟨rfl, rfl, rfl⟩, J4⟩
                  case measure => simp [intOf]; omega
                · have hn4 : (Cn : Int) < q3 := by omega
                  have HB2 := Lib.hid hB2; clear hB2
                  have Hlt := Lib.hid hlt; clear hlt
                  go_wp2
                  go_roundw
                  case rel => unfold SbX; exact ⟨x + 1, by omega, by go_num, by rw [HB2.out]; exact ⟨rfl, rfl, rfl⟩, J4⟩
                  case measure => simp [intOf]; omega
              · have hB2 := Hst.out.trans (bsStep_no hlt)
                have hn3 : ¬ q3 < 0 := by omega
                have hn4 : ¬ (Cn : Int) < q3 := by omega
                have HB2 := Lib.hid hB2; clear hB2
                have Hlt := Lib.hid hlt; clear hlt
                go_wp2
                go_roundw
                case rel => unfold SbX; exact ⟨x + 1, by omega, by go_num, by rw [HB2.out]; exact ⟨rfl, rfl, rfl⟩, J4⟩
                case measure => simp [intOf]; omega
        · obtain rfl : x = WX := by omega
          have hx1 : decide ((x : Int) + (wid ss : Int) ≤ s) = false := by rw [decide_eq_false_iff_not]; omega
          have hx2 : s < (x : Int) + (wid ss : Int) := by omega
          have hB2 : bsN C x ((y + 1) * x) = (q1, q2, q3) := by rw [Nat.add_mul, Nat.one_mul]; exact eB
          have EB := Lib.hid eB; clear eB
          have HB2 := Lib.hid hB2; clear hB2
          go_wp2
          go_roundw
          case rel => exact ⟨y + 1, by omega, by go_num, by rw [HB2.out]; exact ⟨rfl, rfl, rfl⟩, J⟩
          case measure => simp [intOf]; omega
    · obtain rfl : y = HY := by omega
      have hy1 : decide ((y : Int) + (ss.length : Int) ≤ s) = false := by rw [decide_eq_false_iff_not]; omega
      have hy2 : s < (y : Int) + (ss.length : Int) := by omega
      have hR := ERES.out.symm.trans EB.out
      have SF := J.since
      have HR := Lib.hid hR; clear hR
      clear J
      go_wp2
      refine bodyPost_ret (v := .tuple #[.int .i64 r1, .int .i64 r2, .int .i64 r3, .bool true]) (by simp [results, Try.results35, go_sem]) rfl ⟨by rw [HR.out], SF.below⟩
set_option maxRecDepth 100000 in
set_option maxHeartbeats 4000000 in
theorem sBestShift_any (p : Option Addr) (c : Nat) (ss : List ByteArray) (s : Int) (w : World) (hn : ss.length ≤ 1048576) (hs : ∀ s ∈ ss, s.size ≤ 1048576) (hr : Rd w p ss.length (strAt ss)) (h0 : -9223372036854775808 ≤ s) (h1 : s ≤ 9223372036854775807) :
    Calls Try.prog 35 #[.agg #[.slice p ss.length c], .int .i64 s] w fun e w' => e = .returned (.tuple #[.int .i64 (bsR ss s).1, .int .i64 (bsR ss s).2.1, .int .i64 (bsR ss s).2.2, .bool (bsOk ss s)]) ∧ Below w.heap.size w w' := by
  cases hb : bsOk ss s
  rotate_left
  · have h := hb
    simp only [bsOk, Bool.and_eq_true, decide_eq_true_eq] at h
    exact sBestShift_yes p c ss s w hn hs hr h.1.1.1 h.1.1.2 h.1.2 h.2
  · rw [bs_no hb]
    have hy0 := bl_alloc w (.cells #[.slice p ss.length c] 38)
    have R := hr.bl hy0
    have hbox : (w.alloc (.cells #[.slice p ss.length c] 38)).cell? ⟨w.heap.size, 0, none⟩ = some (.slice p ss.length c) := by simp
    have c0 := l01Is_any w.heap.size p c ss _ hn hs hbox R
    have hbo : (okPic ss && sideB s && decide ((wid ss : Int) ≤ s) && decide ((ss.length : Int) ≤ s)) = false := hb
    cases hok : okPic ss
    · rw [hok] at c0
      have C0 := Lib.hid c0; clear c0
      have Hok := Lib.hid hok; clear hok
      have Hb := Lib.hid hb; clear hb
      have Hbo := Lib.hid hbo; clear hbo
      clear R hr hs hbox
      go_enter Try.func35, Try.ntmps35
      go_wp2_with fail
      with_reducible (refine C0.out.mono ?_)
      rintro e w1 ⟨rfl, n0, rfl⟩
      have SF := bl_trans hy0 (bl_drewN _ n0)
      go_wp2
      refine bodyPost_ret (v := .tuple #[.int .i64 0, .int .i64 0, .int .i64 0, .bool false]) (by simp [results, Try.results35, go_sem]) rfl ⟨rfl, SF⟩
    · rw [hok] at c0
      have P0 : PicAt (w.alloc (.cells #[.slice p ss.length c] 38)) w.heap.size p c ss := ⟨hok, hbox, R⟩
      have c1 := fun w => l02Side_any s w
      have k2 := fun n => l01Width_any w.heap.size p c ss _ (P0.drewN n)
      have k3 := fun n => l01Height_any w.heap.size p c ss _ (P0.drewN n)
      cases hsd : sideB s
      · simp only [hsd] at c1
        have C0 := Lib.hid c0; clear c0
        have Hok := Lib.hid hok; clear hok
        have Hb := Lib.hid hb; clear hb
        have Hbo := Lib.hid hbo; clear hbo
        have C1 := Lib.hid c1; clear c1
        have Hsd := Lib.hid hsd; clear hsd
        clear R hr hs hbox P0 k2 k3
        go_enter Try.func35, Try.ntmps35
        go_wp2_with fail
        with_reducible (refine C0.out.mono ?_)
        rintro e w1 ⟨rfl, n0, rfl⟩
        have SF := bl_trans hy0 (bl_drewN _ n0)
        go_wp2_with fail
        with_reducible (refine (C1.out _).mono ?_)
        rintro e w2 ⟨rfl, rfl⟩
        go_wp2
        refine bodyPost_ret (v := .tuple #[.int .i64 0, .int .i64 0, .int .i64 0, .bool false]) (by simp [results, Try.results35, go_sem]) rfl ⟨rfl, SF⟩
      · simp only [hsd] at c1
        rw [hok, hsd, Bool.true_and, Bool.true_and, Bool.and_eq_false_iff, decide_eq_false_iff_not, decide_eq_false_iff_not] at hbo
        by_cases hw1 : s < (wid ss : Int)
        · have hg1 : decide (s < (wid ss : Int)) = true := decide_eq_true hw1
          have C0 := Lib.hid c0; clear c0
          have Hok := Lib.hid hok; clear hok
          have Hb := Lib.hid hb; clear hb
          have Hbo := Lib.hid hbo; clear hbo
          have C1 := Lib.hid c1; clear c1
          have Hsd := Lib.hid hsd; clear hsd
          have K2 := Lib.hid k2; clear k2
          clear R hr hs hbox P0 k3
          go_enter Try.func35, Try.ntmps35
          go_wp2_with fail
          with_reducible (refine C0.out.mono ?_)
          rintro e w1 ⟨rfl, n0, rfl⟩
          have SF := bl_trans hy0 (bl_drewN _ n0)
          go_wp2_with fail
          with_reducible (refine (C1.out _).mono ?_)
          rintro e w2 ⟨rfl, rfl⟩
          go_wp2_with fail
          with_reducible (refine (K2.out _).mono ?_)
          rintro e w2 ⟨rfl, rfl⟩
          go_wp2
          refine bodyPost_ret (v := .tuple #[.int .i64 0, .int .i64 0, .int .i64 0, .bool false]) (by simp [results, Try.results35, go_sem]) rfl ⟨rfl, SF⟩
        · have hw2 : s < (ss.length : Int) := by omega
          have hg1 : decide (s < (wid ss : Int)) = false := decide_eq_false hw1
          have hg2 : decide (s < (ss.length : Int)) = true := decide_eq_true hw2
          have C0 := Lib.hid c0; clear c0
          have Hok := Lib.hid hok; clear hok
          have Hb := Lib.hid hb; clear hb
          have Hbo := Lib.hid hbo; clear hbo
          have C1 := Lib.hid c1; clear c1
          have Hsd := Lib.hid hsd; clear hsd
          have K2 := Lib.hid k2; clear k2
          have K3 := Lib.hid k3; clear k3
          clear R hr hs hbox P0
          go_enter Try.func35, Try.ntmps35
          go_wp2_with fail
          with_reducible (refine C0.out.mono ?_)
          rintro e w1 ⟨rfl, n0, rfl⟩
          have SF := bl_trans hy0 (bl_drewN _ n0)
          go_wp2_with fail
          with_reducible (refine (C1.out _).mono ?_)
          rintro e w2 ⟨rfl, rfl⟩
          go_wp2_with fail
          with_reducible (refine (K2.out _).mono ?_)
          rintro e w2 ⟨rfl, rfl⟩
          go_wp2_with fail
          with_reducible (refine (K3.out _).mono ?_)
          rintro e w2 ⟨rfl, rfl⟩
          go_wp2
          refine bodyPost_ret (v := .tuple #[.int .i64 0, .int .i64 0, .int .i64 0, .bool false]) (by simp [results, Try.results35, go_sem]) rfl ⟨rfl, SF⟩
end Go.Proofs.Ytnenogpagkepfaa
