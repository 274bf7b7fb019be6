/- What is kept while the reference draws a picture. -/
import Derived.Test.YtnenogpagkepfaaSrc
import Derived.Test.YtnenogpagkepfaaSpecMk
set_option linter.unusedVariables false
namespace Go.Proofs.Ytnenogpagkepfaa
open Go.RowKit

/-- A picture that is being drawn: the source in block b, the result's block r, the pixels in block r + 1. -/
structure DrRel (p : Option Addr) (c : Nat) (l : List Int) (b n : Nat) (w : World) (K : Nat) (wr : World) : Prop where
  src : Src wr b p c l K
  box : Box wr w.heap.size (.slice none 0 0) 38
  row : ∃ f, Bools wr (w.heap.size + 1) n f
  gr : w.grownBy wr (some b)
  lt : b < w.heap.size
theorem Bools.grown {w w' : World} {g n : Nat} {f : Nat → Bool} (h : Bools w g n f) {r : Option Nat} (hg : w.grownBy w' r) (hr : some g ≠ r) : Bools w' g n f := by
  obtain ⟨m, F, h1, hr2, h2⟩ := h.row
  exact ⟨m, F, h1, row_grown hg hr2 hr, h2⟩
theorem DrRel.pick {p : Option Addr} {c : Nat} {l : List Int} {b n : Nat} {w : World} {K K' : Nat} {wr w2 : World} (h : DrRel p c l b n w K wr) (hs : Src w2 b p c l K') (hg : wr.grownBy w2 (some b)) : DrRel p c l b n w K' w2 := by
  obtain ⟨f, hf⟩ := h.row
  have hlt := h.lt
  exact ⟨hs, h.box.grown hg (by intro e; cases e; omega), ⟨f, hf.grown hg (by intro e; cases e; omega)⟩, grown_trans h.gr hg, hlt⟩
theorem DrRel.more {p : Option Addr} {c : Nat} {l : List Int} {b n : Nat} {w : World} {K K' : Nat} {wr : World} (h : DrRel p c l b n w K wr) (hk : K ≤ K') : DrRel p c l b n w K' wr := ⟨h.src.more hk, h.box, h.row, h.gr, h.lt⟩
theorem DrRel.set {p : Option Addr} {c : Nat} {l : List Int} {b n : Nat} {w : World} {K : Nat} {wr : World} (h : DrRel p c l b n w K wr) (i : Nat) (v : Bool) : DrRel p c l b n w K (wr.setCell ⟨w.heap.size + 1, i, none⟩ (.bool v)) := by
  obtain ⟨f, hf⟩ := h.row
  have hlt := h.lt
  have hb := h.box.lt
  refine ⟨h.src.under (B := b + 1) ((Below.refl (b + 1) wr).setCell (p := ⟨w.heap.size + 1, i, none⟩) (by simp; omega) _) (by omega), h.box.other (a := ⟨w.heap.size + 1, i, none⟩) (by simp) _, ⟨_, hf.set i v⟩, ?_, hlt⟩
  have h1 := h.gr
  exact ⟨h1.os, h1.tape, h1.output, by simpa using h1.size, fun k hk hn => (Below.heap_setCell _ _ _ _ (by simp; omega)).trans (h1.block k hk hn)⟩
theorem DrRel.start {p : Option Addr} {c : Nat} {l : List Int} {b n : Nat} {w : World} {K : Nat} (h : Src w b p c l K) :
    DrRel p c l b n w K ((w.alloc (.cells #[.slice none 0 0] 38)).alloc (.cells (madeCells #[.bool false] n) 4)) := by
  refine ⟨(h.bl (bl_alloc _ _)).bl (bl_alloc _ _), (Box.new w _ _).alloc _, ⟨fun _ => false, ?_⟩, ?_, h.lt⟩
  · have h1 := World.rowIs_made (w.alloc (.cells #[.slice none 0 0] 38)) (.bool false) n 4
    rw [World.size_alloc] at h1
    exact ⟨_, _, Nat.le_refl _, h1, fun i hi => rfl⟩
  · exact grown_below (grown_below (grown_refl w _) (bl_alloc _ _) (Nat.le_refl _)) (bl_alloc _ _) (by simp)
end Go.Proofs.Ytnenogpagkepfaa
