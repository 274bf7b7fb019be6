/- Behind a statement that makes a variable of an element that a call has made. -/
import Derived.Test.YtheakjbbfdcbaaaLawElem
import Derived.Test.YtheakjbbfdcbaaaOpen2
set_option linter.unusedVariables false
set_option linter.unusedSimpArgs false
namespace Go.Proofs.Ytheakjbbfdcbaaa
open Go.RowKit

theorem OwnSpots.other {B : Nat} {w : World} {v : Value} {l : List (Int × Int)} (h : OwnSpots B w v l) {a : Addr} (ha : ∀ k, v.ownBlock = some k → k ≠ a.block) (u : Value) : OwnSpots B (w.setCell a u) v l := by
  obtain ⟨p, c, hv, ho⟩ := h
  exact ⟨p, c, hv, own_other ho (fun e => ha _ e.symm rfl) u⟩
/-- The variable lies in block nb. -/
structure CutSpots (wb : World) (nb : Nat) (p : Option Addr) (d : Nat) (L : List (Int × Int)) (t : TypeId) (w : World) : Prop where
  blk : Blk w nb #[.slice p L.length d] t
  own : OwnSpots wb.heap.size w (.slice p L.length d) L
  below : Below wb.heap.size wb w
  ge : wb.heap.size ≤ nb
  ne : ∀ k, (Value.slice p L.length d).ownBlock = some k → k ≠ nb
theorem cut_spots {wb w : World} {nb lo : Nat} {p : Option Addr} {d : Nat} {L : List (Int × Int)} {t : TypeId} {z : Value} (B : Blk w nb #[z] t) (O : OwnSpots lo w (.slice p L.length d) L) (hlo : wb.heap.size ≤ lo) (hb : Below wb.heap.size wb w)
    (hnb : wb.heap.size ≤ nb) (hne : ∀ k, (Value.slice p L.length d).ownBlock = some k → k ≠ nb) : CutSpots wb nb p d L t (w.setCell ⟨nb, 0, none⟩ (.slice p L.length d)) :=
  ⟨B.set 0 _, (O.other (a := ⟨nb, 0, none⟩) hne _).mono hlo, hb.setCell hnb _, hnb, hne⟩
theorem cut_spots2 {wb w : World} {lo : Nat} {p : Option Addr} {d : Nat} {L : List (Int × Int)} {t : TypeId} (O : OwnSpots lo w (.slice p L.length d) L) (hlo : wb.heap.size ≤ lo) (hb : Below wb.heap.size wb w) :
    CutSpots wb w.heap.size p d L t (w.alloc (.cells #[.slice p L.length d] t)) :=
  ⟨Blk.new _ _ _, (O.bl (bl_alloc _ _)).mono hlo, hb.alloc hb.size _, hb.size, fun k hk e => by have := (O.ge k hk).2; omega⟩
end Go.Proofs.Ytheakjbbfdcbaaa
