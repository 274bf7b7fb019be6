/- Contracts of told and BlankPicture, and of the reference's l01Make, l01Blank, BlankPicture: pictures that are made. -/
import Derived.Test.YtdjjfgkcheimjaaImgOf
import Derived.Test.YtdjjfgkcheimjaaSpecPic
set_option linter.unusedVariables false
namespace Go.Proofs.Ytdjjfgkcheimjaa
open Go.RowKit

/-- A row of a picture: the byte 35 where p says black, else 46. -/
def rowNums (W : Nat) (p : Nat → Bool) : List Int := (List.range W).map fun i => if p i then 35 else 46
def rowStr (W : Nat) (p : Nat → Bool) : ByteArray := strOfNums (rowNums W p)
/-- The rows of a picture whose pixels are given in reading order. -/
def render (W H : Nat) (f : Nat → Bool) : List ByteArray := (List.range H).map fun y => rowStr W (fun x => f (y * W + x))

theorem rowNums_len (W : Nat) (p : Nat → Bool) : (rowNums W p).length = W := by simp [rowNums]
theorem rowNums_succ (W : Nat) (p : Nat → Bool) : rowNums (W + 1) p = rowNums W p ++ [if p W then 35 else 46] := by simp [rowNums, List.range_succ]
theorem rowStr_size (W : Nat) (p : Nat → Bool) : (rowStr W p).size = W := by rw [rowStr, strOfNums_size, rowNums_len]
theorem rowStr_congr {W : Nat} {p q : Nat → Bool} (h : ∀ i, i < W → p i = q i) : rowStr W p = rowStr W q := by
  unfold rowStr rowNums
  congr 1
  exact List.map_congr_left (fun i hi => by rw [h i (List.mem_range.1 hi)])
theorem render_len (W H : Nat) (f : Nat → Bool) : (render W H f).length = H := by simp [render]
theorem render_succ (W H : Nat) (f : Nat → Bool) : render W (H + 1) f = render W H f ++ [rowStr W (fun x => f (H * W + x))] := by simp [render, List.range_succ]
theorem render_congr {W H : Nat} {f f' : Nat → Bool} (h : ∀ i, i < W * H → f i = f' i) : render W H f = render W H f' := by
  unfold render
  refine List.map_congr_left (fun y hy => rowStr_congr (fun x hx => h _ ?_))
  exact at_lt hx (List.mem_range.1 hy)

theorem info_str : (Try.prog.info? 9).map (fun i => (i.zero, i.size, i.bytes)) = some (some (.string ByteArray.empty), 1, 16) := by kernel_rfl
theorem info_u8 : (Try.prog.info? 5).map (fun i => (i.zero, i.size, i.bytes)) = some (some (.int .u8 0), 1, 1) := by kernel_rfl

/-- The cells of the first x bytes of a row. -/
def rowCells (x : Nat) (p : Nat → Bool) : List Value := (rowNums x p).map (Value.int .u8)
theorem rowCells_succ (x : Nat) (p : Nat → Bool) (b : Bool) (h : p x = b) : rowCells (x + 1) p = rowCells x p ++ [.int .u8 (if b then 35 else 46)] := by
  rw [rowCells, rowNums_succ, List.map_append, h]; rfl

theorem conv_row {w : World} {base : Nat} {p : Option Addr} {W c : Nat} {q : Nat → Bool} (h : w.ownsRow base 5 1 (.slice p W c) W (rowCells W q)) (hW : 0 < W) :
    (convert 45 9 (.slice p W c)).run Try.prog w = .ok (.string (rowStr W q)) w := by
  obtain ⟨g, cap, hv, _, _⟩ := h.form hW
  simp only [Value.slice.injEq] at hv
  obtain ⟨rfl, _, rfl⟩ := hv
  refine run_convert_bytes_arg (P := Try.prog) w 45 5 Try.underlying45 Try.underlying5 g 0 W c (rowNums W q) (rowNums_len W q) (fun i hi => ?_) 9 Try.underlying9
  have := h.cells (g := g) rfl i (.int .u8 ((rowNums W q).getD i 0)) (by simp [rowCells, List.getElem?_eq_getElem (show i < (rowNums W q).length by rw [rowNums_len]; exact hi)])
  rw [← this, Go.WideShapes.add_plain]

end Go.Proofs.Ytdjjfgkcheimjaa
