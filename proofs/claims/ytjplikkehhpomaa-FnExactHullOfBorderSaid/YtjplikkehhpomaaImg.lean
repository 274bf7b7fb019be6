/- Contracts of the program's images: has, get, set, blank. -/
import Derived.Test.YtjplikkehhpomaaBase
set_option linter.unusedVariables false
namespace Go.Proofs.Ytjplikkehhpomaa
open Go.RowKit

/-- Block m is an image of W columns and H rows; its pixels lie in block g, pixel i in reading order is f i. -/
structure Img (w : World) (m g W H : Nat) (f : Nat → Bool) : Prop where
  w1 : 1 ≤ W
  w16 : W ≤ 16
  h1 : 1 ≤ H
  h16 : H ≤ 16
  c0 : w.cell? ⟨m, 0, none⟩ = some (.int .i64 W)
  c1 : w.cell? ⟨m, 1, none⟩ = some (.int .i64 H)
  c2 : w.cell? ⟨m, 2, none⟩ = some (.slice (some ⟨g, 0, none⟩) (W * H) (W * H))
  row : w.rowIs g 4 (W * H) (fun i => .bool (f i))
  ne : m ≠ g

theorem Img.below {w w' : World} {m g W H : Nat} {f : Nat → Bool} (h : Img w m g W H f) {B : Nat} (hb : Below B w w') (hm : m < B) (hg : g < B) : Img w' m g W H f :=
  ⟨h.w1, h.w16, h.h1, h.h16, (hb.cell (p := ⟨m, 0, none⟩) hm).trans h.c0, (hb.cell (p := ⟨m, 1, none⟩) hm).trans h.c1, (hb.cell (p := ⟨m, 2, none⟩) hm).trans h.c2, row_below h.row hb hg, h.ne⟩
theorem Img.lt {w : World} {m g W H : Nat} {f : Nat → Bool} (h : Img w m g W H f) : m < w.heap.size ∧ g < w.heap.size :=
  ⟨World.block_lt_of_cell? _ _ h.c0, h.row.lt⟩
theorem Img.bl {w w' : World} {m g W H : Nat} {f : Nat → Bool} (h : Img w m g W H f) (hb : Below w.heap.size w w') : Img w' m g W H f := h.below hb h.lt.1 h.lt.2
theorem Img.drewN {w : World} {m g W H : Nat} {f : Nat → Bool} (h : Img w m g W H f) (n : Nat) : Img (w.drewN n) m g W H f :=
  ⟨h.w1, h.w16, h.h1, h.h16, h.c0, h.c1, h.c2, h.row, h.ne⟩
theorem Img.congr {w : World} {m g W H : Nat} {f f' : Nat → Bool} (h : Img w m g W H f) (e : ∀ i, i < W * H → f i = f' i) : Img w m g W H f' :=
  ⟨h.w1, h.w16, h.h1, h.h16, h.c0, h.c1, h.c2, h.row.congr (fun i hi => by rw [e i hi]), h.ne⟩
theorem Img.set {w : World} {m g W H : Nat} {f : Nat → Bool} (h : Img w m g W H f) (i : Nat) (b : Bool) : Img (w.setCell ⟨g, i, none⟩ (.bool b)) m g W H (fun j => if j = i then b else f j) := by
  have ho : ∀ j, (w.setCell ⟨g, i, none⟩ (.bool b)).cell? ⟨m, j, none⟩ = w.cell? ⟨m, j, none⟩ := fun j =>
    World.cell?_setCell_other _ _ _ _ (fun e => h.ne (by have := congrArg Addr.block e; simpa using this.symm))
  exact ⟨h.w1, h.w16, h.h1, h.h16, (ho 0).trans h.c0, (ho 1).trans h.c1, (ho 2).trans h.c2, (h.row.set i (.bool b)).congr (fun j hj => by split <;> rfl), h.ne⟩

theorem mul_256 {W H : Nat} (h1 : W ≤ 16) (h2 : H ≤ 16) : W * H ≤ 256 := Nat.mul_le_mul h1 h2
/-- The place of a pixel. -/
theorem at_lt {W H x y : Nat} (hx : x < W) (hy : y < H) : y * W + x < W * H := by
  have : (y + 1) * W ≤ H * W := Nat.mul_le_mul_right W hy
  rw [Nat.add_mul, Nat.one_mul] at this
  rw [Nat.mul_comm W H]
  omega

theorem at_int {W H x y : Nat} (hx : x < W) (hy : y < H) (hw : W ≤ 16) (hh : H ≤ 16) :
    (0 : Int) ≤ (y : Int) * (W : Int) ∧ (y : Int) * (W : Int) ≤ 256 ∧ (y : Int) * (W : Int) + (x : Int) < ((W * H : Nat) : Int) ∧ ((y : Int) * (W : Int) + (x : Int)).toNat = y * W + x := by
  have h1 := at_lt hx hy
  have h2 := mul_256 hw hh
  have h3 : ((y * W : Nat) : Int) = (y : Int) * (W : Int) := Int.natCast_mul _ _
  rw [← h3]
  generalize y * W = q at *
  generalize W * H = r at *
  omega

def hasB (W H : Nat) (x y : Int) : Bool := inB x 0 ((W : Int) - 1) && inB y 0 ((H : Int) - 1)
/-- Is a pixel black? All outside is white. -/
def px (W H : Nat) (f : Nat → Bool) (x y : Int) : Bool := hasB W H x y && f (y.toNat * W + x.toNat)

theorem hasB_nat {W H : Nat} {x y : Int} (h : hasB W H x y = true) : ∃ xn yn : Nat, x = xn ∧ y = yn ∧ xn < W ∧ yn < H := by
  simp only [hasB, inB, Bool.and_eq_true, decide_eq_true_eq] at h
  exact ⟨x.toNat, y.toNat, by omega, by omega, by omega, by omega⟩
theorem hasB_mk {W H x y : Nat} (hx : x < W) (hy : y < H) : hasB W H x y = true := by
  simp only [hasB, inB, Bool.and_eq_true, decide_eq_true_eq]; omega
theorem px_at {W H : Nat} {f : Nat → Bool} {x y : Nat} (hx : x < W) (hy : y < H) : px W H f x y = f (y * W + x) := by rw [px, hasB_mk hx hy]; rfl

end Go.Proofs.Ytjplikkehhpomaa
