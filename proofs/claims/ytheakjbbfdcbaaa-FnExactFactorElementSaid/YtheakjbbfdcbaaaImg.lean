/- Contracts of the program's images: has, get, set, blank. -/
import Derived.Test.YtheakjbbfdcbaaaBase
set_option linter.unusedVariables false
namespace Go.Proofs.Ytheakjbbfdcbaaa
open Go.RowKit

/-- Block m is an image of W columns and H rows; its pixels lie in block g, pixel i in reading order is f i. -/
structure Img (w : World) (m g W H : Nat) (f : Nat → Bool) : Prop where
  w1 : 1 ≤ W
  w16 : W ≤ 16
  h1 : 1 ≤ H
  h16 : H ≤ 16
  c0 : w.cell? ⟨m, 0, none⟩ = some (.int .i64 W)
  c1 : w.cell? ⟨m, 1, none⟩ = some (.int .i64 H)
  c2 : w.cell? ⟨m, 2, none⟩ = some (.slice (some ⟨g, 0, none⟩) (W * H) (W * H))
  row : w.rowIs g 4 (W * H) (fun i => .bool (f i))
  ne : m ≠ g

theorem Img.below {w w' : World} {m g W H : Nat} {f : Nat → Bool} (h : Img w m g W H f) {B : Nat} (hb : Below B w w') (hm : m < B) (hg : g < B) : Img w' m g W H f :=
  ⟨h.w1, h.w16, h.h1, h.h16, (hb.cell (p := ⟨m, 0, none⟩) hm).trans h.c0, (hb.cell (p := ⟨m, 1, none⟩) hm).trans h.c1, (hb.cell (p := ⟨m, 2, none⟩) hm).trans h.c2, row_below h.row hb hg, h.ne⟩
theorem Img.lt {w : World} {m g W H : Nat} {f : Nat → Bool} (h : Img w m g W H f) : m < w.heap.size ∧ g < w.heap.size :=
  ⟨World.block_lt_of_cell? _ _ h.c0, h.row.lt⟩
theorem Img.bl {w w' : World} {m g W H : Nat} {f : Nat → Bool} (h : Img w m g W H f) (hb : Below w.heap.size w w') : Img w' m g W H f := h.below hb h.lt.1 h.lt.2
theorem Img.drewN {w : World} {m g W H : Nat} {f : Nat → Bool} (h : Img w m g W H f) (n : Nat) : Img (w.drewN n) m g W H f :=
  ⟨h.w1, h.w16, h.h1, h.h16, h.c0, h.c1, h.c2, h.row, h.ne⟩
theorem Img.congr {w : World} {m g W H : Nat} {f f' : Nat → Bool} (h : Img w m g W H f) (e : ∀ i, i < W * H → f i = f' i) : Img w m g W H f' :=
  ⟨h.w1, h.w16, h.h1, h.h16, h.c0, h.c1, h.c2, h.row.congr (fun i hi => by rw [e i hi]), h.ne⟩
theorem Img.set {w : World} {m g W H : Nat} {f : Nat → Bool} (h : Img w m g W H f) (i : Nat) (b : Bool) : Img (w.setCell ⟨g, i, none⟩ (.bool b)) m g W H (fun j => if j = i then b else f j) := by
  have ho : ∀ j, (w.setCell ⟨g, i, none⟩ (.bool b)).cell? ⟨m, j, none⟩ = w.cell? ⟨m, j, none⟩ := fun j =>
    World.cell?_setCell_other _ _ _ _ (fun e => h.ne (by have := congrArg Addr.block e; simpa using this.symm))
  exact ⟨h.w1, h.w16, h.h1, h.h16, (ho 0).trans h.c0, (ho 1).trans h.c1, (ho 2).trans h.c2, (h.row.set i (.bool b)).congr (fun j hj => by split <;> rfl), h.ne⟩

theorem mul_256 {W H : Nat} (h1 : W ≤ 16) (h2 : H ≤ 16) : W * H ≤ 256 := Nat.mul_le_mul h1 h2
/-- The place of a pixel. -/
theorem at_lt {W H x y : Nat} (hx : x < W) (hy : y < H) : y * W + x < W * H := by
  have : (y + 1) * W ≤ H * W := Nat.mul_le_mul_right W hy
  rw [Nat.add_mul, Nat.one_mul] at this
  rw [Nat.mul_comm W H]
  omega

theorem at_int {W H x y : Nat} (hx : x < W) (hy : y < H) (hw : W ≤ 16) (hh : H ≤ 16) :
    (0 : Int) ≤ (y : Int) * (W : Int) ∧ (y : Int) * (W : Int) ≤ 256 ∧ (y : Int) * (W : Int) + (x : Int) < ((W * H : Nat) : Int) ∧ ((y : Int) * (W : Int) + (x : Int)).toNat = y * W + x := by
  have h1 := at_lt hx hy
  have h2 := mul_256 hw hh
  have h3 : ((y * W : Nat) : Int) = (y : Int) * (W : Int) := Int.natCast_mul _ _
  rw [← h3]
  generalize y * W = q at *
  generalize W * H = r at *
  omega

def hasB (W H : Nat) (x y : Int) : Bool := inB x 0 ((W : Int) - 1) && inB y 0 ((H : Int) - 1)
/-- Is a pixel black? All outside is white. -/
def px (W H : Nat) (f : Nat → Bool) (x y : Int) : Bool := hasB W H x y && f (y.toNat * W + x.toNat)

theorem hasB_nat {W H : Nat} {x y : Int} (h : hasB W H x y = true) : ∃ xn yn : Nat, x = xn ∧ y = yn ∧ xn < W ∧ yn < H := by
  simp only [hasB, inB, Bool.and_eq_true, decide_eq_true_eq] at h
  exact ⟨x.toNat, y.toNat, by omega, by omega, by omega, by omega⟩
theorem hasB_mk {W H x y : Nat} (hx : x < W) (hy : y < H) : hasB W H x y = true := by
  simp only [hasB, inB, Bool.and_eq_true, decide_eq_true_eq]; omega
theorem px_at {W H : Nat} {f : Nat → Bool} {x y : Nat} (hx : x < W) (hy : y < H) : px W H f x y = f (y * W + x) := by rw [px, hasB_mk hx hy]; rfl

set_option maxHeartbeats 400000 in
theorem has_any (m g W H : Nat) (f : Nat → Bool) (x y : Int) (w : World) (h : Img w m g W H f) :
    Calls Try.prog 82 #[.pointer (some ⟨m, 0, none⟩), .int .i64 x, .int .i64 y] w fun e w' => e = .returned (.bool (hasB W H x y)) ∧ w = w' := by
  obtain ⟨hw1, hw2, hh1, hh2, c0, c1, _, _, _⟩ := h
  cases hx : inB x 0 ((W : Int) - 1)
  all_goals
    go_enter Try.func82, Try.ntmps82
    go_wp2_with (go_at_call 48; refine (in_any _ _ _ _).mono ?_; rintro e w' ⟨rfl, rfl⟩)
    go_ret
    exact ⟨by simp [hasB, hx], rfl⟩
set_option maxHeartbeats 1000000 in
theorem get_any (m g W H : Nat) (f : Nat → Bool) (x y : Int) (w : World) (h : Img w m g W H f) :
    Calls Try.prog 74 #[.pointer (some ⟨m, 0, none⟩), .int .i64 x, .int .i64 y] w fun e w' => e = .returned (.bool (px W H f x y)) ∧ ∃ n, w' = w.drewN n := by
  cases hh : hasB W H x y
  · go_enter Try.func74, Try.ntmps74
    go_wp2
    go_quiet ((go_at_call 82; refine Calls.quiet_of_same ((has_any m g W H f x y _ (h.drewN _)).mono fun e w' q => ⟨q.1.trans (by rw [hh]), q.2.symm⟩)))
    go_wp2
    go_ret
    exact ⟨ret_bool (by rw [px, hh]; rfl), _, rfl⟩
  · obtain ⟨xn, yn, rfl, rfl, hxW, hyH⟩ := hasB_nat hh
    have hlt := at_lt hxW hyH
    obtain ⟨hq0, hq1, hq2, hq3⟩ := at_int hxW hyH h.w16 h.h16
    have hc := h.row.cell hlt
    have c0 := h.c0
    have c2 := h.c2
    have hw16 := h.w16
    have HH := Lib.hid hh
    have HF : Hid (px W H f (xn : Int) (yn : Int) = f (yn * W + xn)) := by rw [Hid, px, hh]; rfl
    have hcall : ∀ n, Calls Try.prog 82 #[.pointer (some ⟨m, 0, none⟩), .int .i64 xn, .int .i64 yn] (w.drewN n) fun e w' => e = .returned (.bool true) ∧ w' = w.drewN n := fun n =>
      (has_any m g W H f xn yn _ (h.drewN n)).mono fun e w' q => ⟨q.1.trans (by rw [hh]), q.2.symm⟩
    have HC := Lib.hid hcall
    obtain ⟨v, ev⟩ : ∃ v, f (yn * W + xn) = v := ⟨_, rfl⟩
    rw [ev] at hc HF
    clear hcall hh h ev hlt
    go_enter Try.func74, Try.ntmps74
    go_wp2
    go_quiet ((go_at_call 82; refine Calls.quiet_of_same (HC.out _)))
    go_wp2
    go_ret
    exact ⟨ret_bool HF.out.symm, _, rfl⟩
set_option maxHeartbeats 1000000 in
theorem set_any (m g W H : Nat) (f : Nat → Bool) (x y : Int) (b : Bool) (w : World) (h : Img w m g W H f) (hx0 : 0 ≤ x) (hx1 : x < W) (hy0 : 0 ≤ y) (hy1 : y < H) :
    Calls Try.prog 71 #[.pointer (some ⟨m, 0, none⟩), .int .i64 x, .int .i64 y, .bool b] w fun e w' => e = .returned (.tuple #[]) ∧ w' = (w.setCell ⟨g, y.toNat * W + x.toNat, none⟩ (.bool b)).drew := by
  obtain ⟨xn, rfl⟩ := Int.eq_ofNat_of_zero_le hx0
  obtain ⟨yn, rfl⟩ := Int.eq_ofNat_of_zero_le hy0
  have hxW : xn < W := by omega
  have hyH : yn < H := by omega
  have hlt := at_lt hxW hyH
  obtain ⟨hq0, hq1, hq2, hq3⟩ := at_int hxW hyH h.w16 h.h16
  have hc := h.row.cell hlt
  have hf := h.row.frozen (yn * W + xn)
  have c0 := h.c0
  have c2 := h.c2
  have hw16 := h.w16
  rw [Int.toNat_natCast, Int.toNat_natCast]
  clear h hlt hx0 hy0
  go_enter Try.func71, Try.ntmps71
  go_wp2
  go_region
  go_wp2
  go_end0
  exact ⟨rfl, rfl⟩
theorem info_bool : (Try.prog.info? 4).map (fun i => (i.zero, i.size, i.bytes)) = some (some (.bool false), 1, 1) := by kernel_rfl
set_option maxHeartbeats 1000000 in
theorem blank_any (W H : Nat) (w : World) (hw1 : 1 ≤ W) (hw2 : W ≤ 16) (hh1 : 1 ≤ H) (hh2 : H ≤ 16) :
    Calls Try.prog 70 #[.int .i64 W, .int .i64 H] w fun e w' => ∃ m g, e = .returned (.pointer (some ⟨m, 0, none⟩)) ∧ Img w' m g W H (fun _ => false) ∧ w.heap.size ≤ m ∧ w.heap.size ≤ g ∧ Below w.heap.size w w' := by
  have hq1 : (W : Int) * (H : Int) ≤ 256 := by rw [← Int.natCast_mul]; exact Int.ofNat_le.2 (mul_256 hw2 hh2)
  have hq0 : (0 : Int) ≤ (W : Int) * (H : Int) := by rw [← Int.natCast_mul]; exact Int.natCast_nonneg _
  have hm := mul_256 hw2 hh2
  have hmk := run_make_row' (P := Try.prog) 91 4 (.bool false) 1 Try.underlying91 info_bool rfl .i64 .i64 (W * H) (by omega) (by omega)
  rw [Int.natCast_mul] at hmk
  go_enter Try.func70, Try.ntmps70
  go_wp2
  go_ret
  refine ⟨w.heap.size + 1, w.heap.size, rfl, ⟨hw1, hw2, hh1, hh2, ?_, ?_, ?_, ?_, by omega⟩, by omega, by omega, by (repeat' (first | exact Below.refl _ _ | assumption | refine Below.drew ?_ | refine below_drewN ?_ _ | refine Below.alloc ?_ ?_ _ | refine Below.setCell ?_ ?_ _ | go_size))⟩
  · simp
  · simp
  · simp
  · exact (World.rowIs_made w (.bool false) (W * H) 4).alloc _
end Go.Proofs.Ytheakjbbfdcbaaa
