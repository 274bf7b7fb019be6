/- A picture that was made is valid, and its pixels are those that it was made of. -/
import Derived.Test.YtnenogpagkepfaaTold
import Derived.Test.YtnenogpagkepfaaSpecPix
set_option linter.unusedVariables false
namespace Go.Proofs.Ytnenogpagkepfaa
open Go.RowKit

theorem rowStr_list (W : Nat) (p : Nat → Bool) : (rowStr W p).data.toList = (List.range W).map fun i => if p i then 35 else 46 := by
  rw [rowStr, strOfNums_data, rowNums, List.map_map]
  apply List.map_congr_left
  intro i _
  simp only [Function.comp]
  cases p i <;> rfl
theorem rowStr_ok (W : Nat) (p : Nat → Bool) : okRow W (rowStr W p) = true := by
  simp only [okRow, rowStr_size, decide_true, Bool.true_and, rowStr_list, List.all_eq_true, List.mem_map]
  rintro b ⟨i, _, rfl⟩
  cases p i <;> rfl
theorem render_at {W H : Nat} {f : Nat → Bool} {y : Nat} (hy : y < H) : (render W H f).getD y ByteArray.empty = rowStr W (fun x => f (y * W + x)) := by
  simp [render, List.getD, List.getElem?_map, List.getElem?_range hy]
theorem wid_render {W H : Nat} {f : Nat → Bool} (hH : 1 ≤ H) : wid (render W H f) = W := by rw [wid, render_at hH, rowStr_size]
theorem okPic_render {W H : Nat} (f : Nat → Bool) (h1 : 1 ≤ W) (h2 : W ≤ 16) (h3 : 1 ≤ H) (h4 : H ≤ 16) : okPic (render W H f) = true := by
  refine okPic_yes ?_ ?_ ?_
  · rw [render_len]; exact inB_mk (by omega) (by omega)
  · rw [wid_render h3]; exact inB_mk (by omega) (by omega)
  · rw [wid_render h3, List.all_eq_true]
    intro s hs
    obtain ⟨y, _, rfl⟩ := List.mem_map.1 hs
    exact rowStr_ok _ _
theorem bits_render {W H : Nat} {f : Nat → Bool} {i : Nat} (hH : 1 ≤ H) (hi : i < W * H) : bits (render W H f) i = f i := by
  have hW : 0 < W := Nat.pos_of_ne_zero (by rintro rfl; simp at hi)
  have hy : i / W < H := by rw [Nat.div_lt_iff_lt_mul hW, Nat.mul_comm]; exact hi
  have hx : i % W < W := Nat.mod_lt _ hW
  rw [bits, wid_render hH, bitAt, rowS, render_at hy, rowStr_list]
  rw [List.getElem?_map, List.getElem?_range hx]
  simp only [Option.map_some]
  rw [show i / W * W + i % W = i by rw [Nat.mul_comm]; exact Nat.div_add_mod i W]
  cases f i <;> rfl
theorem px_render {W H : Nat} {f : Nat → Bool} (hH : 1 ≤ H) (x y : Int) : px W H (bits (render W H f)) x y = px W H f x y := by
  cases h : hasB W H x y with
  | false => rw [px, px, h]; rfl
  | true =>
    obtain ⟨xn, yn, rfl, rfl, hx, hy⟩ := hasB_nat h
    rw [px_at hx hy, px_at hx hy, bits_render hH (at_lt hx hy)]
theorem px_congr {W H : Nat} {f g : Nat → Bool} (h : ∀ i, i < W * H → f i = g i) (x y : Int) : px W H f x y = px W H g x y := by
  cases hh : hasB W H x y with
  | false => rw [px, px, hh]; rfl
  | true =>
    obtain ⟨xn, yn, rfl, rfl, hx, hy⟩ := hasB_nat hh
    rw [px_at hx hy, px_at hx hy, h _ (at_lt hx hy)]
end Go.Proofs.Ytnenogpagkepfaa
