/- What the laws' walks keep of results that are slices of numbers. -/
import Derived.Test.YtnenogpagkepfaaLawKit
import Derived.Test.YtnenogpagkepfaaInts
set_option linter.unusedVariables false
namespace Go.Proofs.Ytnenogpagkepfaa
open Go.RowKit

theorem OwnInts.of_blk {B : Nat} {w : World} {g : Nat} {cs : Array Value} (l : List Int) (h : Blk w g cs 2) (hl : cs.toList = intCells l) (hB : B ≤ g) (hm : cs.size ≤ maxLen) : OwnInts B w (.slice (some ⟨g, 0, none⟩) l.length cs.size) l := by
  have e : cs.size = l.length := by rw [← Array.length_toList, hl, intCells_len]
  refine ⟨_, _, rfl, by rw [intCells_len]; omega, .inr ⟨g, cs.size, cs, rfl, hB, h, by omega, hm, by omega, ?_⟩⟩
  rw [hl, List.take_of_length_le (by rw [intCells_len]; omega)]
theorem eqInt64S_g {p q : Option Addr} {c d : Nat} {l : List Int} {w : World} (hn : l.length ≤ 1048576) (hr : Rd w p l.length (intAt l)) (hq : Rd w q l.length (intAt l)) :
    Calls Try.prog 32 #[.slice p l.length c, .slice q l.length d] w fun e w' => e = .returned (.bool true) ∧ Below w.heap.size w w' :=
  (eqInt64S_same p q c d l w hn hr hq).mono fun e w' ⟨he, n, hw⟩ => ⟨he, hw ▸ bl_drewN _ _⟩
structure MarkInts (w : World) (p : Option Addr) (m : Nat) : Prop where
  rd : Rd w p m (numAt 1)
theorem MarkInts.bl {w w' : World} {p : Option Addr} {n : Nat} (h : MarkInts w p n) (hb : Below w.heap.size w w') : MarkInts w' p n := ⟨h.rd.bl hb⟩
theorem markInt64S_g {B : Nat} {w : World} {p : Option Addr} {c : Nat} {l : List Int} (h : OwnInts B w (.slice p l.length c) l) (hn : l.length ≤ 1048576) :
    Calls Try.prog 33 #[.slice p l.length c, .int .i64 1] w fun e w' => e = .returned (.int .i64 (1 + l.length)) ∧ MarkInts w' p l.length ∧ w.grownBy w' (Value.slice p l.length c).ownBlock :=
  (markInt64S_own h hn 1 (by omega) (by omega)).mono fun e w' ⟨he, hr, hg⟩ => ⟨he.trans (ret_int (by omega)), ⟨hr⟩, hg⟩
theorem heldInt64S_g {w : World} {p : Option Addr} {n : Nat} (c : Nat) (h : MarkInts w p n) (hn : n ≤ 1048576) :
    Calls Try.prog 34 #[.slice p n c, .int .i64 1] w fun e w' => e = .returned (.int .i64 (1 + n)) ∧ Below w.heap.size w w' :=
  (heldInt64S_any p n c 1 w hn (by omega) (by omega) h.rd).mono fun e w' ⟨he, hb⟩ => ⟨he.trans (ret_int (by omega)), by rw [← hb]; exact Below.refl _ _⟩
end Go.Proofs.Ytnenogpagkepfaa
