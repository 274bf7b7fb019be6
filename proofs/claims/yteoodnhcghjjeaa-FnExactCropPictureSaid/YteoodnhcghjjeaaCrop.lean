/- Contracts of the reference's CropPicture. -/
import Derived.Test.YteoodnhcghjjeaaSpecPix
import Derived.Test.YteoodnhcghjjeaaTold
import Derived.Test.YteoodnhcghjjeaaRender
import Derived.Test.YteoodnhcghjjeaaSpecIn
import Derived.Test.YteoodnhcghjjeaaSpecMk
import Derived.Deep.RegionHeld3
import Derived.Deep.RegionLaw
import Derived.Deep.AppendLies
import Derived.StillTailTactics
set_option linter.unusedVariables false
set_option linter.unusedSimpArgs false
namespace Go.Proofs.Yteoodnhcghjjeaa
open Go.RowKit

/-- A part of a picture. -/
def cropF (ss : List ByteArray) (x y W : Nat) (i : Nat) : Bool := bitAt ss (x + i % W) (y + i / W)
def cropR (ss : List ByteArray) (x y W k : Nat) : List ByteArray := (List.range k).map fun j => (rowS ss (y + j)).extract x (x + W)
theorem cropR_succ (ss : List ByteArray) (x y W k : Nat) : cropR ss x y W (k + 1) = cropR ss x y W k ++ [(rowS ss (y + k)).extract x (x + W)] := by simp [cropR, List.range_succ]
theorem cropR_len (ss : List ByteArray) (x y W k : Nat) : (cropR ss x y W k).length = k := by simp [cropR]
theorem okPic_rowL {ss : List ByteArray} (h : okPic ss = true) {y : Nat} (hy : y < ss.length) : (rowS ss y).size = wid ss ∧ (rowS ss y).data.toList.all okB = true := by
  simp only [okPic, Bool.and_eq_true, List.all_eq_true] at h
  have h2 := h.2 (rowS ss y) (getD_mem hy)
  simp only [okRow, Bool.and_eq_true, decide_eq_true_eq] at h2
  exact ⟨h2.1, h2.2⟩
theorem extract_row {ss : List ByteArray} (h : okPic ss = true) {x y W : Nat} (hy : y < ss.length) (hx : x + W ≤ wid ss) : (rowS ss y).extract x (x + W) = rowStr W (fun i => bitAt ss (x + i) y) := by
  obtain ⟨h1, h2⟩ := okPic_rowL h hy
  have e : ((rowS ss y).extract x (x + W)).data.toList = ((rowS ss y).data.toList.drop x).take W := by
    rw [ByteArray.data_extract, Array.toList_extract, List.extract_eq_take_drop]
    congr 1
    omega
  apply ByteArray.ext
  apply Array.toList_inj.1
  rw [e, rowStr, strOfNums]
  have hl : (rowS ss y).data.toList.length = wid ss := by rw [Array.length_toList]; exact h1
  apply List.ext_getElem
  · simp only [List.length_take, List.length_drop, hl, List.length_map, rowNums, List.length_range, List.toList_toArray]
    omega
  · intro i i1 i2
    have hi : i < W := by simp at i1; omega
    have hxi : x + i < (rowS ss y).data.toList.length := by omega
    have hb := List.all_eq_true.1 h2 _ (List.getElem_mem hxi)
    have hv : bitAt ss (x + i) y = ((rowS ss y).data.toList[x + i] == 35) := by
      unfold bitAt
      rw [List.getElem?_eq_getElem hxi]
    simp only [List.getElem_take, List.getElem_drop, List.getElem_map, rowNums, List.getElem_range, hv]
    simp only [okB, Bool.or_eq_true, beq_iff_eq] at hb
    rcases hb with hb | hb <;> rw [hb] <;> decide
theorem crop_render {ss : List ByteArray} (h : okPic ss = true) {x y W H : Nat} (hW : 1 ≤ W) (hy : y + H ≤ ss.length) (hx : x + W ≤ wid ss) : cropR ss x y W H = render W H (cropF ss x y W) := by
  unfold cropR render
  apply List.map_congr_left
  intro j hj
  have hj := List.mem_range.1 hj
  rw [extract_row h (by omega) hx]
  unfold rowStr rowNums
  congr 1
  apply List.map_congr_left
  intro i hi
  have hi := List.mem_range.1 hi
  show (if bitAt ss (x + i) (y + j) = true then (35 : Int) else 46) = if cropF ss x y W (j * W + i) = true then 35 else 46
  rw [show cropF ss x y W (j * W + i) = bitAt ss (x + i) (y + j) by rw [cropF, (at_mod hi).1, (at_mod hi).2]]
theorem info_str2 : (Try.prog.info? 9).map (fun i => (i.zero, i.size, i.bytes)) = some (some (.string ByteArray.empty), 1, 16) := by kernel_rfl
theorem one_str2 (x : ByteArray) : ∀ u ∈ [Value.string x], u.oneCell' = true := by simp [Value.oneCell']
def cropW (w : World) (s : ByteArray) : World := (w.alloc (.cells #[.string s] 9)).drew
theorem cropW_below (w : World) (s : ByteArray) : Below w.heap.size w (cropW w s) := bl_trans (bl_alloc w _) (bl_drew _)
set_option maxRecDepth 100000 in
set_option maxHeartbeats 4000000 in
theorem l01Crop_any (a : Nat) (p : Option Addr) (c : Nat) (ss : List ByteArray) (x y W H : Nat) (w : World) (P : PicAt w a p c ss) (hW : 1 ≤ W) (hy : y + H ≤ ss.length) (hx : x + W ≤ wid ss) :
    Calls Try.prog 96 #[.pointer (some ⟨a, 0, none⟩), .int .i64 x, .int .i64 y, .int .i64 W, .int .i64 H] w fun e w' => ∃ v, e = .returned (.agg #[v]) ∧ OwnStrs w.heap.size w' v (render W H (cropF ss x y W)) ∧ Below w.heap.size w w' := by
  have hok := P.ok
  obtain ⟨d1, d2, d3, d4⟩ := okPic_dims hok
  have hcr := crop_render hok hW hy hx
  rw [← hcr]
  have Hcr := Lib.hid hcr; clear hcr
  go_enter Try.func96, Try.ntmps96
  go_wp2
  go_loopw [12] (fun i wr => ∃ (k : Nat) (q : Option Addr) (d : Nat), k ≤ H ∧ i = .int .i64 ((y + k : Nat) : Int) ∧ Box wr w.heap.size (.slice none 0 0) 28 ∧ Box wr (w.heap.size + 1 + 1) (.slice q k d) 28 ∧
      wr.ownsRow (w.heap.size + 1) 9 1 (.slice q k d) k ((cropR ss x y W k).map Value.string) ∧ q ≠ some ⟨w.heap.size + 1 + 1, 0, none⟩ ∧ Below w.heap.size w wr) (fun i _ => y + H - (intOf i).toNat)
  case atStart =>
    refine ⟨0, _, _, Nat.zero_le _, by simp, ((Box.new _ _ _).alloc _).alloc _, ?_, World.ownsRow.alloc (World.ownsRow_made (w.alloc _) #[] 0 (by simp) (by decide) rfl) _, by simp, by (repeat' (first | exact Below.refl _ _ | assumption | refine Below.drew ?_ | refine below_drewN ?_ _ | refine Below.alloc ?_ ?_ _ | refine Below.setCell ?_ ?_ _ | go_size))⟩
    have := Box.new ((w.alloc (.cells #[.slice none 0 0] 28)).alloc (.cells #[] 9)) (.slice (some ⟨w.heap.size + 1, 0, none⟩) 0 0) 28
    simpa using this
  case round =>
    obtain ⟨k, q, d, hk, rfl, B0, B1, hown, hq, hbl⟩ := hrel
    obtain ⟨z, hz⟩ : ∃ z, y + k = z := ⟨_, rfl⟩
    obtain ⟨xw, hxw⟩ : ∃ xw, x + W = xw := ⟨_, rfl⟩
    rw [hz]
    by_cases hlt : k < H
    · have P1 := P.bl hbl
      obtain ⟨pb, po, s, rfl, hcy, hszs, hs16, hes, _⟩ := P1.row (y := z) (by omega)
      have hbx := P1.box
      have hal := P1.lt
      have hsu := cropR_succ ss x y W k
      rw [hz, hxw, show rowS ss z = s from hes] at hsu
      have hxs : xw ≤ s.size := by omega
      have hxs0 : x ≤ xw := by omega
      have hA0 : (0 : Int) ≤ (z : Int) := Int.natCast_nonneg _
      have hA1 : (z : Int) < (ss.length : Int) := by omega
      have hA2 : (0 : Int) ≤ (x : Int) := Int.natCast_nonneg _
      have hA3 : (x : Int) ≤ (xw : Int) := by omega
      have hA5 : xw ≤ wid ss := by omega
      have hA4 : (xw : Int) ≤ (s.size : Int) := by omega
      have hpb := World.block_lt_of_cell? _ _ hcy
      have hb1 := cropW_below wr (s.extract x xw)
      have e1 := B1.cell
      have B1w := B1.bl hb1
      have e2 := B1w.cell
      have hbs := hbl.size
      have h1lt := B1.lt
      have hown1 := own_below hown hb1 (Nat.le_refl _)
      have hblk : (cropW wr (s.extract x xw)).heap[wr.heap.size]? = some (.cells #[.string (s.extract x xw)] 9 (0, 0)) := heap_alloc_new wr _
      have g1 := (hb1.cell (p := ⟨a, 0, none⟩) hal).trans hbx
      have g2 := (hb1.cell (p := ⟨pb, po + z, none⟩) hpb).trans hcy
      have hne : some (w.heap.size + 1 + 1) ≠ (Value.slice q k d).ownBlock := own_ne_ptr hown hq
      have Hsu := Lib.hid hsu; clear hsu
      have Hes := Lib.hid hes; clear hes
      have hsum : IntKind.i64.wrap ((x : Int) + (W : Int)) = (xw : Int) := by rw [IntWalk.i64_in] <;> omega
      unfold cropW at hb1 e2 B1w hown1 hblk g1 g2
      obtain ⟨i0, hi0, hz0, hz1, hz2⟩ := info_parts info_str2
      clear P1
      go_upto_region 5 with (fail)
      go_region_law
        ((refine step_append_lies _ (by rfl) _ _ _ (by rfl) (w.heap.size + 1) 9 i0 _ 1 16 Try.underlying22 hi0 hz0 hz1 hz2 rfl (by decide) (.slice q k d) k _ (by rfl) hown1
                ⟨wr.heap.size, 0, none⟩ 1 1 [.string (s.extract x xw)] (by rfl) (by rfl) (World.news_of_block (cs := #[.string (s.extract x xw)]) (t := 9) (fr := (0, 0)) hblk) (one_str2 _)
                (by decide) (by unfold maxLen; omega) (by omega) (by simp; omega) (wr.heap.size + 1) (by simp) ?_; intro g' cap w2 hown3 hgr hat hlt2; have bx := B1w.grown hgr hne; have e3 := bx.cell; have f3 := bx.frozen))
      all_goals
        have bx0 := (B0.bl hb1).grown hgr (own_ne hown1 (by omega))
        have hbl2 := hbl.trans (hb1.mono hbs)
        have hg2 : g' ≠ w.heap.size + 1 + 1 := by
          rcases hat with hat | hat
          · exact fun e => hne (by rw [hat, e])
          · omega
        clear hsum hA0 hA1 hA2 hA3 hA4 hA5 g1 g2 hblk e1 e2 e3 f3 hcy hbx
        go_wp2
        go_roundw
        case rel =>
          refine ⟨k + 1, _, _, by omega, val_int (by omega), bx0.other (by simp; omega) _, bx.set _, ?_, by first | (simp; done) | (simp; omega), ?_⟩
          · rw [Hsu.out, List.map_append]
            exact own_other hown3 (by simp [Value.ownBlock]; omega) _
          · exact (below_own hbl2 hgr (fun k hk => by have := own_ge hown1 k hk; omega) hbl2.size).setCell (by simp; omega) _
        case measure => simp [intOf]; omega
    · obtain rfl : k = H := by omega
      have e0 := B0.cell
      have e1 := B1.cell
      have f0 := B0.frozen
      clear P
      go_wp2
      refine bodyPost_ret (v := .agg #[.slice q k d]) (by simp [results, Try.results96, go_sem, e0]) rfl ⟨_, rfl, ⟨q, d, by rw [cropR_len], ?_⟩, hbl.setCell (by simp) _⟩
      rw [cropR_len]
      exact own_mono (own_set hown (by simp) _) (by omega)
def cropOk (ss : List ByteArray) (x y wd ht : Int) : Bool := okPic ss && (hasB (wid ss) ss.length x y && (inB wd 1 ((wid ss : Int) - x) && inB ht 1 ((ss.length : Int) - y)))
def cropL (ss : List ByteArray) (x y wd ht : Int) : List ByteArray := if cropOk ss x y wd ht = true then render wd.toNat ht.toNat (cropF ss x.toNat y.toNat wd.toNat) else []
theorem crop_dims {ss : List ByteArray} {x y wd ht : Int} (h : cropOk ss x y wd ht = true) : ∃ xn yn wn hn : Nat, x = xn ∧ y = yn ∧ wd = wn ∧ ht = hn ∧ xn + wn ≤ wid ss ∧ yn + hn ≤ ss.length ∧ 1 ≤ wn ∧ 1 ≤ hn := by
  simp only [cropOk, Bool.and_eq_true] at h
  obtain ⟨_, h1, h2, h3⟩ := h
  obtain ⟨xn, yn, rfl, rfl, hx, hy⟩ := hasB_nat h1
  have a := inB_true h2
  have b := inB_true h3
  exact ⟨xn, yn, wd.toNat, ht.toNat, rfl, rfl, by omega, by omega, by omega, by omega, by omega, by omega⟩
theorem cropL_len (ss : List ByteArray) (x y wd ht : Int) (hn : ss.length ≤ 1048576) : (cropL ss x y wd ht).length ≤ 1048576 := by
  unfold cropL
  split
  · rename_i h
    obtain ⟨xn, yn, wn, hn', rfl, rfl, rfl, rfl, h1, h2, h3, h4⟩ := crop_dims h
    rw [render_len]
    omega
  · simp
set_option maxRecDepth 100000 in
set_option maxHeartbeats 4000000 in
theorem sCropPicture_any (p : Option Addr) (c : Nat) (ss : List ByteArray) (x y wd ht : Int) (w : World) (hn : ss.length ≤ 1048576) (hs : ∀ s ∈ ss, s.size ≤ 1048576) (hr : Rd w p ss.length (strAt ss)) :
    Calls Try.prog 41 #[.agg #[.slice p ss.length c], .agg #[.int .i64 x, .int .i64 y], .int .i64 wd, .int .i64 ht] w fun e w' =>
      ∃ v, e = .returned (.tuple #[.agg #[v], .bool (cropOk ss x y wd ht)]) ∧ OwnStrs w.heap.size w' v (cropL ss x y wd ht) ∧ Below w.heap.size w w' := by
  have hy0 := bl_alloc w (.cells #[.slice p ss.length c] 28)
  have hy1 := bl_alloc (w.alloc (.cells #[.slice p ss.length c] 28)) (.cells #[.int .i64 x, .int .i64 y] 54)
  have hy2 := bl_alloc ((w.alloc (.cells #[.slice p ss.length c] 28)).alloc (.cells #[.int .i64 x, .int .i64 y] 54)) (.cells #[.slice none 0 0] 28)
  have S := (((Since.refl w).bl hy0).bl hy1).bl hy2
  have P : PicVar (((w.alloc (.cells #[.slice p ss.length c] 28)).alloc (.cells #[.int .i64 x, .int .i64 y] 54)).alloc (.cells #[.slice none 0 0] 28)) w.heap.size p c ss :=
    (PicVar.bl (PicVar.bl ⟨by simp, hr.alloc _⟩ hy1) hy2)
  have A := (Blk.new (w.alloc (.cells #[.slice p ss.length c] 28)) #[.int .i64 x, .int .i64 y] 54).bl hy2
  have B := Box.new ((w.alloc (.cells #[.slice p ss.length c] 28)).alloc (.cells #[.int .i64 x, .int .i64 y] 54)) (.slice none 0 0) 28
  simp only [World.size_alloc] at A B
  have ax := A.cell 0 rfl
  have ay := A.cell 1 rfl
  have c0 := fun n => l01Is_any w.heap.size p c ss ((((w.alloc (.cells #[.slice p ss.length c] 28)).alloc (.cells #[.int .i64 x, .int .i64 y] 54)).alloc (.cells #[.slice none 0 0] 28)).drewN n) hn hs (P.bl (bl_drewN _ n)).box (P.bl (bl_drewN _ n)).rd
  clear hy0 hy1 hy2
  cases hok : okPic ss
  · rw [hok] at c0
    have hv : cropL ss x y wd ht = [] := by simp [cropL, cropOk, hok]
    have hv2 : cropOk ss x y wd ht = false := by simp [cropOk, hok]
    rw [hv, hv2]
    clear hv hv2
    have C0 := Lib.hid c0; clear c0
    have Hok := Lib.hid hok; clear hok
    go_enter Try.func41, Try.ntmps41
    go_wp2_with fail
    go_quiet ((first | (go_at_call 55; with_reducible (exact Calls.quiet_of (C0.out _)))))
    replace B := B.bl (bl_drewN _ nq)
    replace S := S.bl (bl_drewN _ nq)
    have e0 := B.cell
    have f0 := B.frozen
    go_wp2
    refine bodyPost_ret (v := .tuple #[.agg #[.slice none 0 0], .bool false]) (by simp [results, Try.results41, go_sem, e0]) rfl ⟨_, rfl, OwnStrs.nil _ _, (S.set (by omega) _ _).below⟩
  · rw [hok] at c0
    have P1 := P.at hok
    have c1 := fun n => (l01Has_any w.heap.size p c ss x y _ (P1.bl (bl_drewN _ n))).mono fun e w' q => (⟨q.1, q.2.symm⟩ : e = .returned (.bool (hasB (wid ss) ss.length x y)) ∧ w' = _)
    have c2 := fun n => (l01Width_any w.heap.size p c ss _ (P1.bl (bl_drewN _ n))).mono fun e w' q => (⟨q.1, q.2.symm⟩ : e = .returned (.int .i64 (wid ss)) ∧ w' = _)
    have c3 := fun n => (l01Height_any w.heap.size p c ss _ (P1.bl (bl_drewN _ n))).mono fun e w' q => (⟨q.1, q.2.symm⟩ : e = .returned (.int .i64 (ss.length : Int)) ∧ w' = _)
    obtain ⟨d1, d2, d3, d4⟩ := okPic_dims hok
    cases hh : hasB (wid ss) ss.length x y
    · rw [hh] at c1
      have hv : cropL ss x y wd ht = [] := by simp [cropL, cropOk, hok, hh]
      have hv2 : cropOk ss x y wd ht = false := by simp [cropOk, hok, hh]
      rw [hv, hv2]
      clear hv hv2
      have C0 := Lib.hid c0; clear c0
      have C1 := Lib.hid c1; clear c1
      have Hok := Lib.hid hok; clear hok
      have Hh := Lib.hid hh; clear hh
      go_enter Try.func41, Try.ntmps41
      go_wp2_with fail
      go_quiet ((first | (go_at_call 55; with_reducible (exact Calls.quiet_of (C0.out _))) | (go_at_call 56; with_reducible (exact Calls.quiet_of_same (C1.out _)))))
      replace B := B.bl (bl_drewN _ nq)
      replace S := S.bl (bl_drewN _ nq)
      have e0 := B.cell
      have f0 := B.frozen
      go_wp2
      refine bodyPost_ret (v := .tuple #[.agg #[.slice none 0 0], .bool false]) (by simp [results, Try.results41, go_sem, e0]) rfl ⟨_, rfl, OwnStrs.nil _ _, (S.set (by omega) _ _).below⟩
    · rw [hh] at c1
      obtain ⟨xn, yn, rfl, rfl, hxW, hyH⟩ := hasB_nat hh
      have c4 := fun n => (l00In_any wd 1 ((wid ss : Int) - xn) ((((w.alloc (.cells #[.slice p ss.length c] 28)).alloc (.cells #[.int .i64 xn, .int .i64 yn] 54)).alloc (.cells #[.slice none 0 0] 28)).drewN n)).mono fun e w' q => (⟨q.1, q.2.symm⟩ : e = .returned (.bool (inB wd 1 ((wid ss : Int) - xn))) ∧ w' = _)
      have c5 := fun n => (l00In_any ht 1 ((ss.length : Int) - yn) ((((w.alloc (.cells #[.slice p ss.length c] 28)).alloc (.cells #[.int .i64 xn, .int .i64 yn] 54)).alloc (.cells #[.slice none 0 0] 28)).drewN n)).mono fun e w' q => (⟨q.1, q.2.symm⟩ : e = .returned (.bool (inB ht 1 ((ss.length : Int) - yn))) ∧ w' = _)
      have hs1 : IntKind.i64.wrap ((wid ss : Int) - (xn : Int)) = (wid ss : Int) - xn := by rw [IntWalk.i64_in] <;> omega
      have hs2 : IntKind.i64.wrap ((ss.length : Int) - (yn : Int)) = (ss.length : Int) - yn := by rw [IntWalk.i64_in] <;> omega
      cases h1 : inB wd 1 ((wid ss : Int) - xn)
      · rw [h1] at c4
        have hv : cropL ss xn yn wd ht = [] := by simp [cropL, cropOk, hok, hh, h1]
        have hv2 : cropOk ss xn yn wd ht = false := by simp [cropOk, hok, hh, h1]
        rw [hv, hv2]
        clear hv hv2
        have C0 := Lib.hid c0; clear c0
        have C1 := Lib.hid c1; clear c1
        have C2 := Lib.hid c2; clear c2
        have C4 := Lib.hid c4; clear c4
        have Hok := Lib.hid hok; clear hok
        have Hh := Lib.hid hh; clear hh
        have H1 := Lib.hid h1; clear h1
        clear c5 hs2
        go_enter Try.func41, Try.ntmps41
        go_wp2_with fail
        go_quiet ((first | (go_at_call 55; with_reducible (exact Calls.quiet_of (C0.out _))) | (go_at_call 56; with_reducible (exact Calls.quiet_of_same (C1.out _))) | (go_at_call 74; with_reducible (exact Calls.quiet_of_same (C2.out _))) | (go_at_call 82; with_reducible (exact Calls.quiet_of_same (C4.out _)))))
        replace B := B.bl (bl_drewN _ nq)
        replace S := S.bl (bl_drewN _ nq)
        have e0 := B.cell
        have f0 := B.frozen
        go_wp2
        refine bodyPost_ret (v := .tuple #[.agg #[.slice none 0 0], .bool false]) (by simp [results, Try.results41, go_sem, e0]) rfl ⟨_, rfl, OwnStrs.nil _ _, (S.set (by omega) _ _).below⟩
      · rw [h1] at c4
        cases h2 : inB ht 1 ((ss.length : Int) - yn)
        · rw [h2] at c5
          have hv : cropL ss xn yn wd ht = [] := by simp [cropL, cropOk, hok, hh, h1, h2]
          have hv2 : cropOk ss xn yn wd ht = false := by simp [cropOk, hok, hh, h1, h2]
          rw [hv, hv2]
          clear hv hv2
          have C0 := Lib.hid c0; clear c0
          have C1 := Lib.hid c1; clear c1
          have C2 := Lib.hid c2; clear c2
          have C3 := Lib.hid c3; clear c3
          have C4 := Lib.hid c4; clear c4
          have C5 := Lib.hid c5; clear c5
          have Hok := Lib.hid hok; clear hok
          have Hh := Lib.hid hh; clear hh
          have H1 := Lib.hid h1; clear h1
          have H2 := Lib.hid h2; clear h2
          go_enter Try.func41, Try.ntmps41
          go_wp2_with fail
          go_quiet ((first | (go_at_call 55; with_reducible (exact Calls.quiet_of (C0.out _))) | (go_at_call 56; with_reducible (exact Calls.quiet_of_same (C1.out _))) | (go_at_call 74; with_reducible (exact Calls.quiet_of_same (C2.out _))) | (go_at_call 95; with_reducible (exact Calls.quiet_of_same (C3.out _))) | (go_at_call 82; with_reducible (exact Calls.quiet_of_same (C4.out _))) | (go_at_call 82; with_reducible (exact Calls.quiet_of_same (C5.out _)))))
          replace B := B.bl (bl_drewN _ nq)
          replace S := S.bl (bl_drewN _ nq)
          have e0 := B.cell
          have f0 := B.frozen
          go_wp2
          refine bodyPost_ret (v := .tuple #[.agg #[.slice none 0 0], .bool false]) (by simp [results, Try.results41, go_sem, e0]) rfl ⟨_, rfl, OwnStrs.nil _ _, (S.set (by omega) _ _).below⟩
        · rw [h2] at c5
          have hv2 : cropOk ss xn yn wd ht = true := by simp [cropOk, hok, hh, h1, h2]
          have hv : cropL ss xn yn wd ht = render wd.toNat ht.toNat (cropF ss xn yn wd.toNat) := by simp [cropL, hv2]
          rw [hv, hv2]
          have i1 := inB_true h1
          have i2 := inB_true h2
          obtain ⟨wn, rfl⟩ : ∃ wn : Nat, wd = wn := ⟨wd.toNat, by omega⟩
          obtain ⟨hn', rfl⟩ : ∃ hn : Nat, ht = hn := ⟨ht.toNat, by omega⟩
          rw [Int.toNat_natCast, Int.toNat_natCast]
          have ck := fun w' (h : PicAt w' w.heap.size p c ss) => l01Crop_any w.heap.size p c ss xn yn wn hn' w' h (by omega) (by omega) (by omega)
          obtain ⟨L, eL⟩ : ∃ L, render wn hn' (cropF ss xn yn wn) = L := ⟨_, rfl⟩
          rw [eL] at ck ⊢
          clear i1 i2 hv hv2 hxW hyH
          have C0 := Lib.hid c0; clear c0
          have C1 := Lib.hid c1; clear c1
          have C2 := Lib.hid c2; clear c2
          have C3 := Lib.hid c3; clear c3
          have C4 := Lib.hid c4; clear c4
          have C5 := Lib.hid c5; clear c5
          have Hok := Lib.hid hok; clear hok
          have Hh := Lib.hid hh; clear hh
          have H1 := Lib.hid h1; clear h1
          have H2 := Lib.hid h2; clear h2
          have Ck := Lib.hid ck; clear ck
          have EL := Lib.hid eL; clear eL
          go_enter Try.func41, Try.ntmps41
          go_wp2_with fail
          go_quiet ((first | (go_at_call 55; with_reducible (exact Calls.quiet_of (C0.out _))) | (go_at_call 56; with_reducible (exact Calls.quiet_of_same (C1.out _))) | (go_at_call 74; with_reducible (exact Calls.quiet_of_same (C2.out _))) | (go_at_call 95; with_reducible (exact Calls.quiet_of_same (C3.out _))) | (go_at_call 82; with_reducible (exact Calls.quiet_of_same (C4.out _))) | (go_at_call 82; with_reducible (exact Calls.quiet_of_same (C5.out _)))))
          clear hs1 hs2 ax ay
          replace B := B.bl (bl_drewN _ nq)
          replace S := S.bl (bl_drewN _ nq)
          replace P1 := P1.bl (bl_drewN _ nq)
          replace A := A.bl (bl_drewN _ nq)
          have ax := A.cell 0 rfl
          have ay := A.cell 1 rfl
          have f0 := B.frozen
          go_wp2_with fail
          refine (Ck.out _ P1).mono ?_
          rintro e w2 ⟨v, rfl, ⟨q, d, rfl, ho⟩, hb⟩
          clear f0
          replace B := B.bl hb
          replace S := S.bl hb
          have e0 := B.cell
          have f0 := B.frozen
          have hsz : w.heap.size + 1 + 1 + 1 ≤ w2.heap.size := by have := hb.size; simpa using this
          go_wp2
          refine bodyPost_ret (v := .tuple #[.agg #[.slice q L.length d], .bool true]) (by simp [results, Try.results41, go_sem, e0]) rfl ⟨_, rfl, ⟨q, d, rfl, ?_⟩, (S.set (by omega) _ _).below⟩
          exact own_mono (own_set ho (by simp) _) (by simp; omega)
end Go.Proofs.Yteoodnhcghjjeaa
