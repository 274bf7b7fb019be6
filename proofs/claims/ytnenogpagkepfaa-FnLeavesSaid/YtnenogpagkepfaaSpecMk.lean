/- Contracts of the reference's functions that make pictures of pictures. -/
import Derived.Test.YtnenogpagkepfaaSpecIn
import Derived.Test.YtnenogpagkepfaaFrom0
set_option linter.unusedVariables false
namespace Go.Proofs.Ytnenogpagkepfaa
open Go.RowKit

theorem Since.set {w a : World} (h : Since w a) {b : Nat} (hb : w.heap.size ≤ b) (i : Nat) (v : Value) : Since w (a.setCell ⟨b, i, none⟩ v) := ⟨h.below.setCell hb _⟩
theorem Bools.other {w : World} {g n : Nat} {f : Nat → Bool} (h : Bools w g n f) {a : Addr} (ha : g ≠ a.block) (v : Value) : Bools (w.setCell a v) g n f := by
  obtain ⟨m, F, h1, hr, h2⟩ := h.row
  exact ⟨m, F, h1, hr.of_block (Below.heap_setCell _ _ _ _ ha), h2⟩
theorem OwnStrs.set {B : Nat} {w : World} {v : Value} {ss : List ByteArray} (h : OwnStrs B w v ss) {a : Addr} (ha : a.block < B) (u : Value) : OwnStrs B (w.setCell a u) v ss := by
  obtain ⟨p, c, hv, ho⟩ := h
  exact ⟨p, c, hv, own_set ho ha u⟩
theorem Bools.at {w : World} {g n : Nat} {f : Nat → Bool} (h : Bools w g n f) {i : Nat} (hi : i < n) {b : Bool} (hb : f i = b) : w.cell? ⟨g, i, none⟩ = some (.bool b) := hb ▸ h.cell hi

theorem PicVar.since {w : World} {a : Nat} {p : Option Addr} {c : Nat} {ss : List ByteArray} (h : PicVar w a p c ss) : Since w w := Since.refl w
end Go.Proofs.Ytnenogpagkepfaa
