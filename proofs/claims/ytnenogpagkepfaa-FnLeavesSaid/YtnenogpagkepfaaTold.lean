/- Contracts of told and BlankPicture, and of the reference's l01Make, l01Blank, BlankPicture: pictures that are made. -/
import Derived.Test.YtnenogpagkepfaaImgOf
import Derived.Test.YtnenogpagkepfaaSpecPic
set_option linter.unusedVariables false
namespace Go.Proofs.Ytnenogpagkepfaa
open Go.RowKit

/-- A row of a picture: the byte 35 where p says black, else 46. -/
def rowNums (W : Nat) (p : Nat → Bool) : List Int := (List.range W).map fun i => if p i then 35 else 46
def rowStr (W : Nat) (p : Nat → Bool) : ByteArray := strOfNums (rowNums W p)
/-- The rows of a picture whose pixels are given in reading order. -/
def render (W H : Nat) (f : Nat → Bool) : List ByteArray := (List.range H).map fun y => rowStr W (fun x => f (y * W + x))

theorem rowNums_len (W : Nat) (p : Nat → Bool) : (rowNums W p).length = W := by simp [rowNums]
theorem rowNums_succ (W : Nat) (p : Nat → Bool) : rowNums (W + 1) p = rowNums W p ++ [if p W then 35 else 46] := by simp [rowNums, List.range_succ]
theorem rowStr_size (W : Nat) (p : Nat → Bool) : (rowStr W p).size = W := by rw [rowStr, strOfNums_size, rowNums_len]
theorem rowStr_congr {W : Nat} {p q : Nat → Bool} (h : ∀ i, i < W → p i = q i) : rowStr W p = rowStr W q := by
  unfold rowStr rowNums
  congr 1
  exact List.map_congr_left (fun i hi => by rw [h i (List.mem_range.1 hi)])
theorem render_len (W H : Nat) (f : Nat → Bool) : (render W H f).length = H := by simp [render]
theorem render_succ (W H : Nat) (f : Nat → Bool) : render W (H + 1) f = render W H f ++ [rowStr W (fun x => f (H * W + x))] := by simp [render, List.range_succ]
theorem render_congr {W H : Nat} {f f' : Nat → Bool} (h : ∀ i, i < W * H → f i = f' i) : render W H f = render W H f' := by
  unfold render
  refine List.map_congr_left (fun y hy => rowStr_congr (fun x hx => h _ ?_))
  exact at_lt hx (List.mem_range.1 hy)

theorem info_str : (Try.prog.info? 9).map (fun i => (i.zero, i.size, i.bytes)) = some (some (.string ByteArray.empty), 1, 16) := by kernel_rfl
theorem info_u8 : (Try.prog.info? 5).map (fun i => (i.zero, i.size, i.bytes)) = some (some (.int .u8 0), 1, 1) := by kernel_rfl

/-- The cells of the first x bytes of a row. -/
def rowCells (x : Nat) (p : Nat → Bool) : List Value := (rowNums x p).map (Value.int .u8)
theorem rowCells_succ (x : Nat) (p : Nat → Bool) (b : Bool) (h : p x = b) : rowCells (x + 1) p = rowCells x p ++ [.int .u8 (if b then 35 else 46)] := by
  rw [rowCells, rowNums_succ, List.map_append, h]; rfl

theorem conv_row {w : World} {base : Nat} {p : Option Addr} {W c : Nat} {q : Nat → Bool} (h : w.ownsRow base 5 1 (.slice p W c) W (rowCells W q)) (hW : 0 < W) :
    (convert 55 9 (.slice p W c)).run Try.prog w = .ok (.string (rowStr W q)) w := by
  obtain ⟨g, cap, hv, _, _⟩ := h.form hW
  simp only [Value.slice.injEq] at hv
  obtain ⟨rfl, _, rfl⟩ := hv
  refine run_convert_bytes_arg (P := Try.prog) w 55 5 Try.underlying55 Try.underlying5 g 0 W c (rowNums W q) (rowNums_len W q) (fun i hi => ?_) 9 Try.underlying9
  have := h.cells (g := g) rfl i (.int .u8 ((rowNums W q).getD i 0)) (by simp [rowCells, List.getElem?_eq_getElem (show i < (rowNums W q).length by rw [rowNums_len]; exact hi)])
  rw [← this, Go.WideShapes.add_plain]

set_option maxHeartbeats 2000000 in
theorem told_any (m g W H : Nat) (f : Nat → Bool) (w : World) (h : Img w m g W H f) :
    Calls Try.prog 89 #[.pointer (some ⟨m, 0, none⟩)] w fun e w' => ∃ v, e = .returned (.agg #[v]) ∧ OwnStrs w.heap.size w' v (render W H f) ∧ Below w.heap.size w w' := by
  have c1 := h.c1
  have hlt := h.lt
  have hw1 := h.w1
  have hw16 := h.w16
  have hh1 := h.h1
  have hh16 := h.h16
  have hx : (w.alloc (.cells #[.slice none 0 0] 38)).cell? ⟨m, 1, none⟩ = some (.int .i64 H) := by rw [World.cell?_alloc_lt _ _ _ hlt.1]; exact c1
  go_enter Try.func89, Try.ntmps89
  go_wp2
  go_loopw [12] (fun i wr => ∃ (y : Nat) (p : Option Addr) (c : Nat), y ≤ H ∧ i = .int .i64 y ∧ Box wr w.heap.size (.slice none 0 0) 38 ∧ Box wr (w.heap.size + 1) (.slice p y c) 38 ∧
      wr.ownsRow (w.heap.size + 2) 9 1 (.slice p y c) y ((render W y f).map Value.string) ∧ Below w.heap.size w wr) (fun i _ => H - (intOf i).toNat)
  case atStart =>
    refine ⟨0, none, 0, Nat.zero_le _, rfl, ?_, ?_, World.ownsRow_nil _ _ _ _, by (repeat' (first | exact Below.refl _ _ | assumption | refine Below.drew ?_ | refine below_drewN ?_ _ | refine Below.alloc ?_ ?_ _ | refine Below.setCell ?_ ?_ _ | go_size))⟩
    · exact (Box.new _ _ _).alloc _
    · have := Box.new (w.alloc (.cells #[.slice none 0 0] 38)) (.slice none 0 0) 38
      simpa using this
  case round =>
    obtain ⟨y, p, c, hy, rfl, hx0, hx1, hown, hbl⟩ := hrel
    by_cases hyH : y < H
    · have hI := h.below hbl hlt.1 hlt.2
      have d0 := hI.c0
      obtain ⟨wo, ewo⟩ : ∃ wo : World, wo = wr := ⟨_, rfl⟩
      subst ewo
      have hmo := hI.lt.1
      have hbs := hbl.size
      have hB1 : (wo.alloc (.cells #[] 5)).ownsRow wo.heap.size 5 1 (.slice (some ⟨wo.heap.size, 0, none⟩) 0 0) 0 (rowCells 0 (fun x => f (y * W + x))) := World.ownsRow_made wo #[] 0 (Nat.le_refl _) (by decide) rfl
      clear c1 hx
      go_wp2_with fail
      go_loopw [5, 20] (fun r i wr => ∃ (x : Nat) (q : Option Addr) (d : Nat), x ≤ W ∧ i = .int .i64 x ∧ r = .slice q x d ∧ wr.ownsRow wo.heap.size 5 1 (.slice q x d) x (rowCells x (fun x => f (y * W + x))) ∧ Below wo.heap.size wo wr) (fun _ i _ => W - (intOf i).toNat)
      case atStart => exact ⟨0, _, _, Nat.zero_le _, rfl, rfl, hB1, by (repeat' (first | exact Below.refl _ _ | assumption | refine Below.drew ?_ | refine below_drewN ?_ _ | refine Below.alloc ?_ ?_ _ | refine Below.setCell ?_ ?_ _ | go_size))⟩
      case round =>
        clear hB1
        obtain ⟨x, q, d, hx, rfl, rfl, hrow, hbj⟩ := hrel
        have hbs2 := hbj.size
        by_cases hxW : x < W
        · have hI2 := hI.below hbj hI.lt.1 hI.lt.2
          have hget := (get_any m g W H f (x : Int) (y : Int) wr hI2).mono (fun e w' q => (⟨q.1.trans (by rw [px_at hxW hyH]), q.2⟩ : e = .returned (.bool (f (y * W + x))) ∧ ∃ n, w' = wr.drewN n))
          have hsu := rowCells_succ x (fun x => f (y * W + x)) (f (y * W + x)) rfl
          have Hget := Lib.hid hget; clear hget
          have Hsu := Lib.hid hsu; clear hsu
          cases hb : f (y * W + x)
          all_goals
            rw [hb] at Hget Hsu
            have Hb := Lib.hid hb; clear hb
            clear hI hx0 hx1 hown hbl d0
            go_wp2_with fail
            refine Hget.out.mono ?_
            rintro e w1 ⟨rfl, k, rfl⟩
            go_wp2_with (at_builtin; refine wpList_push rfl _ _ 55 rfl wo.heap.size 5 (.int .u8 0) 1 1 Try.underlying55 info_u8 rfl (by decide) (.slice q x d) x _ rfl (own_drewN hrow k) _ 1 rfl rfl (one_int _ _) (by omega) (by simp [maxLen]; omega) hbs2 ?_; intro g' cap w2 hown2 hgr hat hlt2)
            go_roundw
            case rel => exact ⟨x + 1, _, _, by omega, by go_num, rfl, by rw [Hsu.out]; exact hown2, below_own (below_drewN hbj k) hgr (own_ge hrow) hbs2⟩
            case measure => simp [intOf]; omega
        · obtain rfl : x = W := by omega
          have hx0' := hx0.below hbj hx0.lt
          have hx1' := hx1.below hbj hx1.lt
          have hown' := own_below hown hbj (Nat.le_refl _)
          have hbl' := hbl.trans (hbj.mono hbs)
          have e0 := hx0'.cell
          have e1 := hx1'.cell
          have f1 := hx1'.frozen
          have hcv := conv_row hrow hw1
          have hlt' := hx1'.lt
          clear hI d0 hx0 hx1 hown hbl hrow
          go_wp2_with (at_builtin; refine wpList_push rfl _ _ 32 rfl (w.heap.size + 2) 9 (.string ByteArray.empty) 1 16 Try.underlying32 info_str rfl (by decide) (.slice p y c) y _ rfl hown' _ 1 rfl rfl (one_str _) (by omega) (by simp [maxLen]; omega) (by omega) ?_; intro g' cap w2 hown2 hgr hat hlt2; have bx := hx1'.grown hgr (own_ne hown' (by omega)); have e2 := bx.cell; have f2 := bx.frozen)
          have bx0 := hx0'.grown hgr (own_ne hown' (by omega))
          go_roundw
          case rel =>
            refine ⟨y + 1, _, _, by omega, by go_num, bx0.other (by simp) _, bx.set _, ?_, ?_⟩
            · rw [render_succ, List.map_append]
              exact own_set hown2 (by simp) _
            · exact (below_own hbl' hgr (fun k hk => by have := own_ge hown' k hk; omega) hbl'.size).setCell (by simp) _
          case measure => simp [intOf]; omega
    · obtain rfl : y = H := by omega
      have e0 := hx0.cell
      have f0 := hx0.frozen
      have e1 := hx1.cell
      go_wp2
      refine bodyPost_ret (v := .agg #[.slice p y c]) (by simp [results, Try.results89, go_sem, e0]) rfl ⟨_, rfl, ⟨p, c, by rw [render_len], ?_⟩, hbl.setCell (by simp) _⟩
      rw [render_len]
      exact own_mono (own_set hown (by simp) _) (by omega)
/-- A row that is being made: x of its bytes are there. -/
def MakeRow (wo : World) (W : Nat) (h : Nat → Bool) (r i : Value) (wr : World) : Prop :=
  ∃ (x : Nat) (q : Option Addr) (d : Nat), x ≤ W ∧ i = .int .i64 x ∧ r = .slice q x d ∧ wr.ownsRow wo.heap.size 5 1 (.slice q x d) x (rowCells x h) ∧ Below wo.heap.size wo wr
set_option maxHeartbeats 2000000 in
theorem l01Make_any (p0 : Option Addr) (W H c0 : Nat) (f : Nat → Bool) (w : World) (hw1 : 1 ≤ W) (hw16 : W ≤ 16) (hh16 : H ≤ 16) (hr : Rd w p0 (W * H) (fun i => .bool (f i))) :
    Calls Try.prog 77 #[.int .i64 W, .slice p0 (W * H) c0] w fun e w' => ∃ v, e = .returned (.agg #[v]) ∧ OwnStrs w.heap.size w' v (render W H f) ∧ Below w.heap.size w w' := by
  have hm := mul_256 hw16 hh16
  go_enter Try.func77, Try.ntmps77
  go_wp2
  go_loopw [6] (fun i wr => ∃ (y : Nat) (p : Option Addr) (c : Nat), y ≤ H ∧ i = .int .i64 ((W * y : Nat) : Int) ∧ Box wr w.heap.size (.slice none 0 0) 38 ∧ Box wr (w.heap.size + 1 + 1) (.slice p y c) 38 ∧
      wr.ownsRow (w.heap.size + 1) 9 1 (.slice p y c) y ((render W y f).map Value.string) ∧ p ≠ some ⟨w.heap.size + 1 + 1, 0, none⟩ ∧ Below w.heap.size w wr) (fun i _ => W * H - (intOf i).toNat)
  case atStart =>
    refine ⟨0, _, _, Nat.zero_le _, by simp, ((Box.new _ _ _).alloc _).alloc _, ?_, World.ownsRow.alloc (World.ownsRow_made (w.alloc _) #[] 0 (by simp) (by decide) rfl) _, by simp, by (repeat' (first | exact Below.refl _ _ | assumption | refine Below.drew ?_ | refine below_drewN ?_ _ | refine Below.alloc ?_ ?_ _ | refine Below.setCell ?_ ?_ _ | go_size))⟩
    have := Box.new ((w.alloc (.cells #[.slice none 0 0] 38)).alloc (.cells #[] 9)) (.slice (some ⟨w.heap.size + 1, 0, none⟩) 0 0) 38
    simpa using this
  case round =>
    obtain ⟨y, p, c, hy, rfl, hx0, hx1, hown, hpne, hbl⟩ := hrel
    by_cases hyH : y < H
    · have hlen : W * y < W * H := by rw [Nat.mul_comm W y]; have := at_lt (W := W) (H := H) (x := 0) (y := y) (by omega) hyH; omega
      have hle : W * y + W ≤ W * H := by rw [← Nat.mul_succ]; exact Nat.mul_le_mul_left _ hyH
      obtain ⟨lb, lo, rfl, hlb, hc⟩ := hr.at (k := W * y) hlen
      obtain ⟨wo, ewo⟩ : ∃ wo : World, wo = wr := ⟨_, rfl⟩
      subst ewo
      have hbs := hbl.size
      have hB1 : (wo.alloc (.cells #[] 5)).ownsRow wo.heap.size 5 1 (.slice (some ⟨wo.heap.size, 0, none⟩) 0 0) 0 (rowCells 0 (fun x => f (y * W + x))) := World.ownsRow_made wo #[] 0 (Nat.le_refl _) (by decide) rfl
      have hc2 : ∀ i, i < W * H → wo.cell? ⟨lb, lo + i, none⟩ = some (.bool (f i)) := fun i hi => (hbl.cell (p := ⟨lb, lo + i, none⟩) hlb).trans (hc i hi)
      have hlb2 : lb < wo.heap.size := by omega
      have Hc2 := Lib.hid hc2; clear hc2
      clear hc hr
      generalize hq : W * y = q0 at *
      have Hq := Lib.hid hq; clear hq
      go_wp2_with fail
      go_loopw [7, 8] (MakeRow wo W (fun x => f (y * W + x))) (fun _ i _ => W - (intOf i).toNat)
      case atStart => unfold MakeRow; exact ⟨0, _, _, Nat.zero_le _, rfl, rfl, hB1, by (repeat' (first | exact Below.refl _ _ | assumption | refine Below.drew ?_ | refine below_drewN ?_ _ | refine Below.alloc ?_ ?_ _ | refine Below.setCell ?_ ?_ _ | go_size))⟩
      case round =>
        clear hB1
        obtain ⟨x, q, d, hx, rfl, rfl, hrow, hbj⟩ := hrel
        have hbs2 := hbj.size
        by_cases hxW : x < W
        · have hck := (hbj.cell (p := ⟨lb, lo + (q0 + x), none⟩) hlb2).trans (Hc2.out (q0 + x) (by omega))
          have ef : f (q0 + x) = f (y * W + x) := by rw [← Hq.out, Nat.mul_comm]
          rw [ef] at hck
          have hsu := rowCells_succ x (fun x => f (y * W + x)) (f (y * W + x)) rfl
          have Hsu := Lib.hid hsu; clear hsu
          have Ef := Lib.hid ef; clear ef
          cases hb : f (y * W + x)
          all_goals
            rw [hb] at hck Hsu
            have Hb := Lib.hid hb; clear hb
            clear hx0 hx1 hown hbl
            go_wp2_with (at_builtin; refine wpList_push rfl _ _ 55 rfl wo.heap.size 5 (.int .u8 0) 1 1 Try.underlying55 info_u8 rfl (by decide) (.slice q x d) x _ rfl hrow _ 1 rfl rfl (one_int _ _) (by omega) (by simp [maxLen]; omega) hbs2 ?_; intro g' cap w2 hown2 hgr hat hlt2)
            go_roundw
            case rel => unfold MakeRow; exact ⟨x + 1, some ⟨g', 0, none⟩, cap, by omega, by go_num, rfl, by rw [Hsu.out]; exact hown2, below_own hbj hgr (own_ge hrow) hbs2⟩
            case measure => simp [intOf]; omega
        · obtain rfl : x = W := by omega
          have hx0' := hx0.below hbj hx0.lt
          have hx1' := hx1.below hbj hx1.lt
          have hown' := own_below hown hbj (Nat.le_refl _)
          have hbl' := hbl.trans (hbj.mono hbs)
          have e0 := hx0'.cell
          have e1 := hx1'.cell
          have f1 := hx1'.frozen
          have hcv := conv_row hrow hw1
          have hlt' := hx1'.lt
          have hpne' : some (w.heap.size + 1 + 1) ≠ (Value.slice p y c).ownBlock := own_ne_ptr hown' hpne
          clear hx0 hx1 hown hbl hrow
          go_wp2_with (at_builtin; refine wpList_push rfl _ _ 32 rfl (w.heap.size + 1) 9 (.string ByteArray.empty) 1 16 Try.underlying32 info_str rfl (by decide) (.slice p y c) y _ rfl hown' _ 1 rfl rfl (one_str _) (by omega) (by simp [maxLen]; omega) (by omega) ?_; intro g' cap w2 hown2 hgr hat hlt2; have bx := hx1'.grown hgr hpne'; have e2 := bx.cell; have f2 := bx.frozen)
          have bx0 := hx0'.grown hgr (own_ne hown' (by omega))
          have hg2 : g' ≠ w.heap.size + 1 + 1 := by
            rcases hat with hat | hat
            · exact fun e => hpne' (by rw [hat, e])
            · omega
          go_roundw
          case rel =>
            refine ⟨y + 1, _, _, by omega, by rw [Nat.mul_succ, Hq.out]; rfl, bx0.other (by simp; omega) _, bx.set _, ?_, by simp, ?_⟩
            · rw [render_succ, List.map_append]
              exact own_other hown2 (by simp [Value.ownBlock]; omega) _
            · exact (below_own hbl' hgr (fun k hk => by have := own_ge hown' k hk; omega) hbl'.size).setCell (by simp; omega) _
          case measure => simp [intOf]; omega
    · obtain rfl : y = H := by omega
      have e0 := hx0.cell
      have e1 := hx1.cell
      have f0 := hx0.frozen
      go_wp2
      refine bodyPost_ret (v := .agg #[.slice p y c]) (by simp [results, Try.results77, go_sem, e0]) rfl ⟨_, rfl, ⟨p, c, by rw [render_len], ?_⟩, hbl.setCell (by simp) _⟩
      rw [render_len]
      exact own_mono (own_set hown (by simp) _) (by omega)
end Go.Proofs.Ytnenogpagkepfaa
