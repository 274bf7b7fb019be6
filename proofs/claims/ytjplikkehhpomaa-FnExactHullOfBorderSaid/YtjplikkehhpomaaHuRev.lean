/- Contract of slices.Reverse at corners; of slices.Grow from nil. -/
import Derived.Test.YtjplikkehhpomaaHuSort
set_option linter.unusedVariables false
set_option linter.unusedSimpArgs false
namespace Go.Proofs.Ytjplikkehhpomaa
open Go.RowKit Go.Sort

set_option maxRecDepth 100000 in
set_option maxHeartbeats 4000000 in
theorem rev_any {B : Nat} {w : World} {g n c : Nat} {l : List (Int × Int)} (h : OwnSpots B w (.slice (some ⟨g, 0, none⟩) n c) l) (hn : n = l.length) (hl : l.length ≤ 1048576) :
    Calls Try.prog 43 #[.slice (some ⟨g, 0, none⟩) n c] w fun e w' => e = .returned (.tuple #[]) ∧ OwnSpots B w' (.slice (some ⟨g, 0, none⟩) n c) l.reverse ∧ w.grownBy w' (some g) := by
  have hH := h.holds
  have hlt : g < w.heap.size := (h.ge g rfl).2
  have hcon := AnyQ.slices_Reverse Try.laysRev 2 Try.isAgg28 Try.sizeOf28 encS (fun _ => rfl) (fun x v hv => by simp [encS] at hv; rcases hv with rfl | rfl <;> rfl) g 0 c l.toArray w hH (by simp; omega)
  have es : l.toArray.size = n := by rw [hn]; rfl
  rw [es] at hcon
  refine Calls.mono hcon ?_
  rintro e w' ⟨rfl, q, rfl⟩
  have er : l.toArray.reverse = l.reverse.toArray := by simp
  rw [er]
  have e1 : putRowK encS 2 (Sort.ahead w q) g 0 l.reverse.toArray = mapBlock (Sort.ahead w q) g (putCells id 0 (flatK encS 2 l.reverse.toArray)) := rfl
  have hsz : (mapBlock (Sort.ahead w q) g (putCells id 0 (flatK encS 2 l.reverse.toArray))).heap.size = w.heap.size := by simp [mapBlock]
  rw [e1]
  refine ⟨rfl, ?_, ?_⟩
  · obtain ⟨p', c', hv, ho⟩ := h
    simp only [Value.slice.injEq] at hv
    obtain ⟨rfl, rfl, rfl⟩ := hv
    rcases ho.2 with ⟨hv, _⟩ | ⟨g', cap, cur, hv, hb, hg, h1, h2, h3, h4⟩
    · cases hv
    · simp only [Value.slice.injEq, Option.some.injEq, Addr.mk.injEq] at hv
      obtain ⟨⟨rfl, _⟩, _, rfl⟩ := hv
      refine ⟨some ⟨g, 0, none⟩, c, by rw [List.length_reverse], ?_⟩
      rw [List.length_reverse]
      refine ⟨by rw [spotCells_len, List.length_reverse], .inr ⟨g, c, putCells id 0 (flatK encS 2 l.reverse.toArray) cur, rfl, hb, ?_, h1, h2, by simp [putCells, h3], put_cells h3 h1 (List.length_reverse)⟩⟩
      simp only [mapBlock, Array.getElem?_modify, if_true, heap_ahead, hg, Option.map_some, onCells]
  · refine ⟨rfl, rfl, rfl, by rw [hsz]; exact Nat.le_refl _, fun i hi hne => ?_⟩
    have : ¬ g = i := fun e => hne (by rw [e])
    simp only [mapBlock, Array.getElem?_modify, this, if_false, heap_ahead]
end Go.Proofs.Ytjplikkehhpomaa
