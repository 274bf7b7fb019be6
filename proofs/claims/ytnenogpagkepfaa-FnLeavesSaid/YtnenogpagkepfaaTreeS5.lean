/- Contract of the reference's l02Open: a tree as a picture. -/
import Derived.Test.YtnenogpagkepfaaTreeS4
import Derived.Test.YtnenogpagkepfaaRender
import Derived.Test.YtnenogpagkepfaaLawKit
import Derived.StillTailTactics
set_option linter.unusedVariables false
set_option linter.unusedSimpArgs false
namespace Go.Proofs.Ytnenogpagkepfaa
open Go.RowKit

def lg (n : Int) : Nat := if n = 1 then 0 else if n = 2 then 1 else if n = 4 then 2 else if n = 8 then 3 else 4
theorem sideB_lg {n : Int} (h : sideB n = true) : n = ((2 ^ lg n : Nat) : Int) ∧ lg n ≤ 4 := by
  simp only [sideB, Bool.or_eq_true, beq_iff_eq] at h
  rcases h with (((h | h) | h) | h) | h <;> subst h <;> exact ⟨by decide, by decide⟩
theorem lg_le (n : Int) : lg n ≤ 4 := by unfold lg; split <;> (try split) <;> (try split) <;> (try split) <;> omega
/-- Is it a tree? -/
def treeV (n : Int) (s : ByteArray) : Bool := sideB n && treeOk (lg n) s
def treeF (n : Int) (s : ByteArray) (i : Nat) : Bool := match pAt s (lg n) 0 with
  | some (T, _) => T.col (lg n) (i % 2 ^ lg n) (i / 2 ^ lg n)
  | none => false
/-- The picture of a tree. -/
def treeL (n : Int) (s : ByteArray) : List ByteArray := render (2 ^ lg n) (2 ^ lg n) (treeF n s)
theorem treeOk_size {k : Nat} {s : ByteArray} (hk : k ≤ 4) (h : treeOk k s = true) : s.size ≤ 766 := by
  unfold treeOk at h
  split at h
  · rename_i T p e
    simp only [Bool.and_eq_true, decide_eq_true_eq] at h
    obtain ⟨h1, h2, h3⟩ := pAt_print s k 0 T p e
    have := print_len k T h1
    have h4 : k = 0 ∨ k = 1 ∨ k = 2 ∨ k = 3 ∨ k = 4 := by omega
    rcases h4 with rfl | rfl | rfl | rfl | rfl <;> simp at this <;> omega
  · cases h
theorem treeOk_no {k : Nat} {s : ByteArray} (h : rdZ s k 0 ≠ s.size) : treeOk k s = false := by
  cases e : treeOk k s with
  | false => rfl
  | true =>
    unfold treeOk at e
    split at e
    · rename_i T p hp
      simp only [Bool.and_eq_true, decide_eq_true_eq] at e
      have := rdZ_some (n := 0) hp
      rw [Int.natCast_zero] at this
      omega
    · cases e
theorem treeOk_yes {k : Nat} {s : ByteArray} (h : rdZ s k 0 = s.size) : ∃ T, pAt s k 0 = some (T, s.size) ∧ treeOk k s = T.canon := by
  obtain ⟨_, T, hT⟩ := rdZ_pos (show 0 ≤ rdZ s k 0 by omega)
  rw [h] at hT
  simp only [Int.toNat_natCast] at hT
  have h0 : pAt s k 0 = some (T, s.size) := hT
  refine ⟨T, h0, ?_⟩
  unfold treeOk
  rw [h0]
  simp

theorem bytes_toList {a b : ByteArray} (h : a.toList = b.toList) : a = b := by
  rw [ByteArray.toList_eq, ByteArray.toList_eq] at h
  exact ByteArray.ext (Array.toList_inj.1 h)
/-- A variable in block a that holds a tree. -/
structure TreeVar (w : World) (a : Nat) (n : Int) (s : ByteArray) : Prop where
  c0 : w.cell? ⟨a, 0, none⟩ = some (.int .i64 n)
  c1 : w.cell? ⟨a, 1, none⟩ = some (.string s)
theorem TreeVar.lt {w : World} {a : Nat} {n : Int} {s : ByteArray} (h : TreeVar w a n s) : a < w.heap.size := World.block_lt_of_cell? _ _ h.c0
theorem TreeVar.bl {w w' : World} {a : Nat} {n : Int} {s : ByteArray} (h : TreeVar w a n s) (hb : Below w.heap.size w w') : TreeVar w' a n s :=
  ⟨(hb.cell (p := ⟨a, 0, none⟩) h.lt).trans h.c0, (hb.cell (p := ⟨a, 1, none⟩) h.lt).trans h.c1⟩
theorem TreeVar.grown {w w' : World} {a : Nat} {n : Int} {s : ByteArray} (h : TreeVar w a n s) {r : Option Nat} (hg : w.grownBy w' r) (hr : some a ≠ r) : TreeVar w' a n s :=
  ⟨hg.cell h.c0 hr, hg.cell h.c1 hr⟩
theorem paint_all {k : Nat} {T : QT} {i : Nat} (h : i < 2 ^ k * 2 ^ k) : paintT (fun _ => false) (2 ^ k) k 0 0 T i = T.col k (i % 2 ^ k) (i / 2 ^ k) := by
  have hp := pow_pos2 k
  have h1 : i % 2 ^ k < 2 ^ k := Nat.mod_lt _ hp
  have h2 : i / 2 ^ k < 2 ^ k := by rw [Nat.div_lt_iff_lt_mul hp]; exact h
  rw [paintT, decide_eq_true ⟨Nat.zero_le _, by rw [Nat.zero_add]; exact h1, Nat.zero_le _, by rw [Nat.zero_add]; exact h2⟩, Bool.true_and, Bool.false_or, Nat.sub_zero, Nat.sub_zero]
/-- What l02Open answers. -/
def OpenOut (w : World) (n : Int) (s : ByteArray) (e : Ending) (w' : World) : Prop :=
  Below w.heap.size w w' ∧ ∃ v L, e = .returned (.tuple #[.agg #[v], .bool (treeV n s)]) ∧ OwnStrs w.heap.size w' v L ∧ (treeV n s = true → L = treeL n s)

set_option maxRecDepth 100000 in
set_option maxHeartbeats 4000000 in
theorem l02Open_no (a : Nat) (n : Int) (s : ByteArray) (w : World) (V : TreeVar w a n s) (hs : s.size ≤ maxLen) (hno : sideB n = false ∨ 1000 < s.size) :
    Calls Try.prog 51 #[.pointer (some ⟨a, 0, none⟩)] w (OpenOut w n s) := by
  unfold maxLen at hs
  have hv : treeV n s = false := by
    rcases hno with h | h
    · rw [treeV, h]; rfl
    · cases e : treeOk (lg n) s with
      | false => rw [treeV, e, Bool.and_false]
      | true => have := treeOk_size (lg_le n) e; omega
  have S := (Since.refl w).alloc (.cells #[.slice none 0 0] 38)
  have B := Box.new w (.slice none 0 0) 38
  have V1 := V.bl (bl_alloc w (.cells #[.slice none 0 0] 38))
  have x0 := V1.c0
  have x1 := V1.c1
  have b0 := B.cell
  have b1 := B.frozen
  have hres : ∀ w', Below w.heap.size w w' → OpenOut w n s (.returned (.tuple #[.agg #[.slice none 0 0], .bool false])) w' := fun w' hb => ⟨hb, _, [], by rw [hv], OwnStrs.nil _ _, fun h => by rw [hv] at h; cases h⟩
  have c1 := fun w => l02Side_any n w
  cases h1 : sideB n
  · rw [h1] at c1
    have Hv := Lib.hid hv; clear hv
    have Hres := Lib.hid hres; clear hres
    have C1 := Lib.hid c1; clear c1
    have H1 := Lib.hid h1; clear h1
    clear hno V V1
    go_enter Try.func51, Try.ntmps51
    go_wp2_with fail
    with_reducible (refine (C1.out _).mono ?_)
    rintro e w1 ⟨rfl, rfl⟩
    go_wp2
    refine bodyPost_ret (v := .tuple #[.agg #[.slice none 0 0], .bool false]) (by simp [results, Try.results51, go_sem, b0]) rfl (Hres.out _ S.below)
  · rw [h1] at c1
    have h2 : 1000 < s.size := by
      rcases hno with h | h
      · rw [h1] at h; cases h
      · exact h
    have Hv := Lib.hid hv; clear hv
    have Hres := Lib.hid hres; clear hres
    have C1 := Lib.hid c1; clear c1
    have H1 := Lib.hid h1; clear h1
    clear hno V V1
    go_enter Try.func51, Try.ntmps51
    go_wp2_with fail
    with_reducible (refine (C1.out _).mono ?_)
    rintro e w1 ⟨rfl, rfl⟩
    go_wp2
    refine bodyPost_ret (v := .tuple #[.agg #[.slice none 0 0], .bool false]) (by simp [results, Try.results51, go_sem, b0]) rfl (Hres.out _ S.below)
set_option maxRecDepth 100000 in
set_option maxHeartbeats 4000000 in
theorem l02Open_yes (a : Nat) (n : Int) (s : ByteArray) (w : World) (V : TreeVar w a n s) (h1 : sideB n = true) (h2 : s.size ≤ 1000) :
    Calls Try.prog 51 #[.pointer (some ⟨a, 0, none⟩)] w (OpenOut w n s) := by
  obtain ⟨hn, hk⟩ := sideB_lg h1
  have hN := pow_le4 hk
  have c1 := fun w => l02Side_any n w
  rw [h1] at c1
  have hNN := mul_256 hN.2 hN.2
  have c2 := fun (g : Nat) (w : World) (B : Bools w g (2 ^ lg n * 2 ^ lg n) (fun _ => false)) => l02Read_any s (2 ^ lg n) g (2 ^ lg n * 2 ^ lg n) h2 hN.2 (lg n) (fun _ => false) 0 0 0 0 n 0 w B rfl rfl hn hk (by omega) (by omega) (by omega) (by omega)
  have hv : treeV n s = treeOk (lg n) s := by rw [treeV, h1, Bool.true_and]
  have hbd := rdZ_bd s (lg n) 0
  have hnn : n * n = ((2 ^ lg n * 2 ^ lg n : Nat) : Int) := by rw [Int.natCast_mul, ← hn]
  have hmk := run_make_row' (P := Try.prog) 62 4 (.bool false) 1 Try.underlying62 info_bool' rfl .i64 .i64 (2 ^ lg n * 2 ^ lg n) (by omega) (by omega)
  rw [← hnn] at hmk
  have S := (Since.refl w).alloc (.cells #[.slice none 0 0] 38)
  have B := Box.new w (.slice none 0 0) 38
  have V1 := V.bl (bl_alloc w (.cells #[.slice none 0 0] 38))
  have hVlt := V.lt
  have x0 := V1.c0
  have x1 := V1.c1
  have hn1 : 1 ≤ n := by omega
  have hn2 : n ≤ 16 := by omega
  have hnn1 : n * n ≤ 256 := by omega
  have hnn0 : 0 ≤ n * n := by omega
  have y0 := V.c0
  have y1 := V.c1
  clear V
  have Hv := Lib.hid hv; clear hv
  have C1 := Lib.hid c1; clear c1
  have C2 := Lib.hid c2; clear c2
  have H1 := Lib.hid h1; clear h1
  have Hn := Lib.hid hn; clear hn
  have Hnn := Lib.hid hnn; clear hnn
  go_enter Try.func51, Try.ntmps51
  go_wp2_with fail
  with_reducible (refine (C1.out _).mono ?_)
  rintro e w1 ⟨rfl, rfl⟩
  have hBlt := B.lt
  go_upto_region 3 with (fail)
  clear y0 y1
  generalize w.alloc (.cells #[.slice none 0 0] 38) = w0 at *
  go_still_tail 9, (by kernel_rfl)
  change wpList _ _ _ _ _ w0.drew
  replace S := S.bl (bl_drew w0)
  replace B := B.bl (bl_drew w0)
  replace V1 := V1.bl (bl_drew w0)
  have hwlt : w0.heap.size = w0.drew.heap.size := rfl
  rw [hwlt] at hBlt
  clear hwlt x0 x1
  generalize w0.drew = wd at *
  replace S := S.alloc (.cells (madeCells #[.bool false] (2 ^ lg n * 2 ^ lg n)) 4)
  replace B := B.alloc (.cells (madeCells #[.bool false] (2 ^ lg n * 2 ^ lg n)) 4)
  replace V1 := V1.bl (bl_alloc wd (.cells (madeCells #[.bool false] (2 ^ lg n * 2 ^ lg n)) 4))
  have Q : Bools (wd.alloc (.cells (madeCells #[.bool false] (2 ^ lg n * 2 ^ lg n)) 4)) wd.heap.size (2 ^ lg n * 2 ^ lg n) (fun _ => false) := ⟨_, _, Nat.le_refl _, World.rowIs_made wd (.bool false) (2 ^ lg n * 2 ^ lg n) 4, fun i _ => rfl⟩
  have x0 := V1.c0
  have x1 := V1.c1
  have hRB : w.heap.size ≠ wd.heap.size := by omega
  have haB : a ≠ wd.heap.size := by omega
  go_upto_region 4 with (fail)
  rw [hmk]
  go_simp
  go_upto_region 4 with (fail)
  generalize wd.alloc (.cells (madeCells #[.bool false] (2 ^ lg n * 2 ^ lg n)) 4) = wq at *
  have c3 := (C2.out wd.heap.size wq.drew (Q.bl (bl_drew _)))
  have hn' := Hn.out.symm
  rw [hn'] at c3
  have y0 := V1.c0
  have y1 := V1.c1
  have hN2 := Hn.out
  obtain ⟨z, ez⟩ : ∃ z, rdZ s (lg n) 0 = z := ⟨_, rfl⟩
  have c4 := c3.mono (fun e w' q => show e = .returned (.int .i64 z) ∧ wq.drew.grownBy w' (some wd.heap.size) ∧ ∃ F, Bools w' wd.heap.size (2 ^ lg n * 2 ^ lg n) F ∧ ∀ T m, (0 : Int) ≤ 0 → pAt s (lg n) (0 : Int).toNat = some (T, m) → ∀ i, i < 2 ^ lg n * 2 ^ lg n → F i = paintT (fun _ => false) (2 ^ lg n) (lg n) 0 0 T i from q.val ez.symm)
  rw [ez] at hbd
  obtain ⟨hbd1, hbd2⟩ := hbd
  clear hn' c3
  have Ez := Lib.hid ez; clear ez
  have C4 := Lib.hid c4; clear c4
  have HN2 := Lib.hid hN2; clear hN2
  clear hmk
  by_cases hz : z = s.size
  · have tz : (z != (s.size : Int)) = false := by simp [hz]
    have Hz := Lib.hid hz; clear hz
    go_region_held3 (fun w' => w'.cell? ⟨a, 0, none⟩ = some (.int .i64 n) ∧ w'.cell? ⟨a, 1, none⟩ = some (.string s))
      (first
        | exact ⟨y0, y1⟩
        | exact ⟨G.cell y0 (by simp; omega), G.cell y1 (by simp; omega)⟩)
      ((go_at_call 92; with_reducible (refine C4.out.mono ?_); rintro e w1 ⟨rfl, G, F, BF, hF⟩))
    obtain ⟨T, hT, hTc⟩ := treeOk_yes (k := lg n) (s := s) (by rw [Ez.out]; exact Hz.out)
    have hF2 : ∀ i, i < 2 ^ lg n * 2 ^ lg n → F i = T.col (lg n) (i % 2 ^ lg n) (i / 2 ^ lg n) := fun i hi => by rw [hF T s.size (Int.le_refl _) hT i hi, paint_all hi]
    have hL : render (2 ^ lg n) (2 ^ lg n) F = treeL n s := by
      rw [treeL]
      exact render_congr (fun i hi => by rw [hF2 i hi, treeF, hT])
    have hq : qt (lg n) (pf (wid (render (2 ^ lg n) (2 ^ lg n) F)) (render (2 ^ lg n) (2 ^ lg n) F).length (bits (render (2 ^ lg n) (2 ^ lg n) F))) 0 0 = qt (lg n) (T.col (lg n)) 0 0 := by
      refine qt_congr (lg n) (fun i j hi hj => ?_)
      rw [wid_render hN.1, render_len, pf, px_render hN.1, Nat.zero_add, Nat.zero_add, px_at hi hj, hF2 _ (at_lt hi hj), (at_mod hi).1, (at_mod hi).2]
    have hcan := canon_iff hT
    have hok := okPic_render F hN.1 hN.2 hN.1 hN.2
    have c5 := l01Make_any (some ⟨wd.heap.size, 0, none⟩) (2 ^ lg n) (2 ^ lg n) (2 ^ lg n * 2 ^ lg n) F w1 hN.1 hN.2 hN.2 BF.rd
    have c6 := fun (a' : Nat) (p' : Option Addr) (c' : Nat) (w' : World) P => l02Text_any a' p' c' (render (2 ^ lg n) (2 ^ lg n) F) (lg n) 0 0 0 0 n w' P rfl rfl HN2.out hk (by omega) (by omega)
    simp only [hq] at c6
    rw [← HN2.out] at c5
    rw [← Hv.out] at hTc
    generalize render (2 ^ lg n) (2 ^ lg n) F = L at *
    have G2 := G
    have V2 := (V1.bl (bl_drew wq)).grown G (by simp; omega)
    have B2 := (B.bl (bl_drew wq)).grown G (by simp; omega)
    have S2 := (S.bl (bl_drew wq)).grown G (by omega)
    have hRlt := B2.lt
    have ax0 := V2.c0
    have ax1 := V2.c1
    clear B S V1 Q G G2 BF hF hF2 hq y0 y1 x0 x1
    have HT := Lib.hid hT; clear hT
    have HL := Lib.hid hL; clear hL
    have Hcan := Lib.hid hcan; clear hcan
    have Hok := Lib.hid hok; clear hok
    have C5 := Lib.hid c5; clear c5
    have C6 := Lib.hid c6; clear c6
    go_wp2_with fail
    with_reducible (refine C5.out.mono ?_)
    rintro e w2 ⟨v, rfl, O, hb⟩
    obtain ⟨q, d, rfl⟩ := O.form
    have V3 := (V2.bl hb).bl (bl_alloc w2 (.cells #[.slice q L.length d] 38))
    have B3 := (B2.bl hb).alloc (.cells #[.slice q L.length d] 38)
    have S3 := (S2.bl hb).alloc (.cells #[.slice q L.length d] 38)
    have P3 : PicAt (w2.alloc (.cells #[.slice q L.length d] 38)) w2.heap.size q d L := ⟨Hok.out, by simp, O.rd.alloc _⟩
    have O3 := O.bl (bl_alloc w2 (.cells #[.slice q L.length d] 38))
    have hsz := hb.size
    have hs1 := S2.size
    clear hb O V2 B2 S2 ax0 ax1 C5
    go_upto_region 7 with (fail)
    generalize w2.alloc (.cells #[.slice q L.length d] 38) = wz at *
    have y0 := V3.c0
    have y1 := V3.c1
    have p0 := P3.box
    have b0 := B3.cell
    have b1 := B3.frozen
    have c7 := C6.out w2.heap.size q d wz.drew (P3.bl (bl_drew _))
    have hRa : a ≠ w.heap.size := by omega
    cases hcc : T.canon
    · have ht : bytesOf (qt (lg n) (T.col (lg n)) 0 0).print ≠ s := fun e => by have := Hcan.out.2 e; rw [hcc] at this; cases this
      rw [hcc] at hTc
      generalize bytesOf (qt (lg n) (T.col (lg n)) 0 0).print = TX at *
      have ht4 : ¬ TX.toList = s.toList := fun e => ht (bytes_toList e)
      have ht3 : (TX.toList == s.toList) = false := by rw [beq_eq_false_iff_ne]; exact ht4
      have C7 := Lib.hid c7; clear c7
      have Hcc := Lib.hid hcc; clear hcc
      have HTc := Lib.hid hTc; clear hTc
      go_region_held3 (fun w' => w'.cell? ⟨w2.heap.size, 0, none⟩ = some (.slice q L.length d) ∧ w'.cell? ⟨a, 0, none⟩ = some (.int .i64 n) ∧ w'.cell? ⟨a, 1, none⟩ = some (.string s))
        (first
          | exact ⟨p0, y0, y1⟩
          | exact ⟨(World.cell?_setCell_other _ _ _ _ (by intro e; injection e; omega)).trans p0, (World.cell?_setCell_other _ _ _ _ (by intro e; injection e; omega)).trans y0, (World.cell?_setCell_other _ _ _ _ (by intro e; injection e; omega)).trans y1⟩)
        ((go_at_call 93; with_reducible (refine C7.out.mono ?_); rintro e w3 ⟨rfl, m, rfl⟩))
      have B4 := ((B3.drew (1 + m)).set (.slice q L.length d)).cell
      have S4 := (S3.bl (bl_drewN wz (1 + m))).set (b := w.heap.size) (Nat.le_refl _) 0 (.slice q L.length d)
      have O4 : OwnStrs w.heap.size ((wz.drewN (1 + m)).setCell ⟨w.heap.size, 0, none⟩ (.slice q L.length d)) (.slice q L.length d) L := ((O3.bl (bl_drewN wz (1 + m))).other (a := ⟨w.heap.size, 0, none⟩) (fun k hk e => by have := (O3.ge k hk).1; simp only at e; omega) _).mono hs1
      go_wp2
      refine bodyPost_ret (v := .tuple #[.agg #[.slice q L.length d], .bool false]) (by simp [results, Try.results51, go_sem, B4, ht4]) rfl ⟨S4.below, _, L, by rw [HTc.out], O4, fun h => by rw [HTc.out] at h; cases h⟩
    · have ht : bytesOf (qt (lg n) (T.col (lg n)) 0 0).print = s := Hcan.out.1 hcc
      rw [hcc] at hTc
      rw [ht] at c7
      have C7 := Lib.hid c7; clear c7
      have Ht := Lib.hid ht; clear ht
      have Hcc := Lib.hid hcc; clear hcc
      have HTc := Lib.hid hTc; clear hTc
      go_region_held3 (fun w' => w'.cell? ⟨w2.heap.size, 0, none⟩ = some (.slice q L.length d) ∧ w'.cell? ⟨a, 0, none⟩ = some (.int .i64 n) ∧ w'.cell? ⟨a, 1, none⟩ = some (.string s))
        (first
          | exact ⟨p0, y0, y1⟩
          | exact ⟨(World.cell?_setCell_other _ _ _ _ (by intro e; injection e; omega)).trans p0, (World.cell?_setCell_other _ _ _ _ (by intro e; injection e; omega)).trans y0, (World.cell?_setCell_other _ _ _ _ (by intro e; injection e; omega)).trans y1⟩)
        ((go_at_call 93; with_reducible (refine C7.out.mono ?_); rintro e w3 ⟨rfl, m, rfl⟩))
      have B4 := ((B3.drew (1 + m)).set (.slice q L.length d)).cell
      have S4 := (S3.bl (bl_drewN wz (1 + m))).set (b := w.heap.size) (Nat.le_refl _) 0 (.slice q L.length d)
      have O4 : OwnStrs w.heap.size ((wz.drewN (1 + m)).setCell ⟨w.heap.size, 0, none⟩ (.slice q L.length d)) (.slice q L.length d) L := ((O3.bl (bl_drewN wz (1 + m))).other (a := ⟨w.heap.size, 0, none⟩) (fun k hk e => by have := (O3.ge k hk).1; simp only at e; omega) _).mono hs1
      go_wp2
      refine bodyPost_ret (v := .tuple #[.agg #[.slice q L.length d], .bool true]) (by simp [results, Try.results51, go_sem, B4]) rfl ⟨S4.below, _, L, by rw [HTc.out], O4, fun _ => HL.out⟩
  · have tz : (z != (s.size : Int)) = true := by simp [hz]
    have hno := treeOk_no (k := lg n) (s := s) (by rw [Ez.out]; exact hz)
    rw [← Hv.out] at hno
    have Hz := Lib.hid hz; clear hz
    have Hno := Lib.hid hno; clear hno
    go_region_held3 (fun w' => w'.cell? ⟨a, 0, none⟩ = some (.int .i64 n) ∧ w'.cell? ⟨a, 1, none⟩ = some (.string s))
      (first
        | exact ⟨y0, y1⟩
        | exact ⟨G.cell y0 (by simp; omega), G.cell y1 (by simp; omega)⟩)
      ((go_at_call 92; with_reducible (refine C4.out.mono ?_); rintro e w1 ⟨rfl, G, F, BF, hF⟩))
    have B2 := (B.bl (bl_drew wq)).grown G (by simp; omega)
    have S2 := (S.bl (bl_drew wq)).grown G (by omega)
    have b0 := B2.cell
    have b1 := B2.frozen
    have B3 := (B2.set (.slice none 0 0)).cell
    have S3 := S2.set (b := w.heap.size) (Nat.le_refl _) 0 (.slice none 0 0)
    clear B S V1 Q G BF hF y0 y1 x0 x1
    go_wp2
    refine bodyPost_ret (v := .tuple #[.agg #[.slice none 0 0], .bool false]) (by simp [results, Try.results51, go_sem, B3]) rfl ⟨S3.below, _, [], by rw [Hno.out], OwnStrs.nil _ _, fun h => by rw [Hno.out] at h; cases h⟩
end Go.Proofs.Ytnenogpagkepfaa
