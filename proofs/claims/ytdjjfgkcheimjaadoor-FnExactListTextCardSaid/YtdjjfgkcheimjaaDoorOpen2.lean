/- What a law's arguments read as: slices of numbers, of spots, of discs; structs of these. -/
import Derived.Test.YtdjjfgkcheimjaaDoorOpen
import Derived.Test.YtdjjfgkcheimjaaDoorLawKit
import Derived.Test.YtdjjfgkcheimjaaDoorInts
import Derived.Deep.SlicePairs
import Derived.Deep.Matrix
import Derived.ChangeSlices
set_option linter.unusedVariables false
set_option maxRecDepth 100000
namespace Go.Proofs.YtdjjfgkcheimjaaDoor
open Go.ChangeShapes Go.WideShapes Go.ChangeAt Go.RowKit Go.Deep

def numV : Value → Int
  | .int _ n => n
  | _ => 0
section
variable {H : Type} {enc : TypeId × Value → H} {W : World} {base : Nat}

theorem trod_num {n : Nat} {v : Value} {y : DataW H × List MemPlace} {t : TypeId} (ht : Tryd.prog.underlying t = some (.int .i64)) (h : DataW.trod enc Tryd.prog W 0 (fun _ => true) true n t [v] = some y) :
    v = .int .i64 (numV v) ∧ -9223372036854775808 ≤ numV v ∧ numV v ≤ 9223372036854775807 := by
  obtain ⟨a, e0, _, wa⟩ := DataW.trod_int ht h
  simp only [List.cons.injEq, and_true] at e0
  subst e0
  exact ⟨rfl, bounds_i64 wa⟩

theorem open_intsL {fuel : Nat} {cs : List Value} {x : DataW H × List MemPlace} {t : TypeId} (ht : Tryd.prog.underlying t = some (.slice 2)) (h : DataW.trod enc Tryd.prog W 0 (fun _ => true) true fuel t cs = some x) :
    ∃ p c l, cs = [.slice p (List.length l) c] ∧ l.length ≤ maxLen ∧ (∀ s ∈ l, -9223372036854775808 ≤ s ∧ s ≤ 9223372036854775807) ∧ Rd W p l.length (intAt l) := by
  rcases open_ints ht Tryd.underlying2 (by kernel_rfl) h with ⟨hcs, _⟩ | ⟨a, len, cap, zs, hcs, _, hl, hm, hz, _, hcell, hws⟩
  · exact ⟨none, 0, [], hcs, by simp, by simp, .inl rfl⟩
  · rw [if_pos rfl] at hz
    have hlen : (zs.take len).length = len := by rw [List.length_take]; omega
    refine ⟨some a, cap, zs.take len, by rw [hlen]; exact hcs, by omega, fun s hs => bounds_i64 (hws s (List.mem_of_mem_take hs)), ?_⟩
    rw [hlen]
    refine Rd.of_add (fun i hi => ?_)
    rw [hcell i (by omega), intAt]
    congr 2
    simp [List.getD, hi]
theorem open_Ints {v : Value} {d : DataW H} {ps : List MemPlace} (hv : Value.okWide Tryd.prog W .any base 22 v) (h : DataW.Trod enc Tryd.prog W 0 (fun _ => true) true 22 v d ps) :
    ∃ p c l, v = .slice p (List.length l) c ∧ l.length ≤ maxLen ∧ (∀ s ∈ l, -9223372036854775808 ≤ s ∧ s ≤ 9223372036854775807) ∧ Rd W p l.length (intAt l) := by
  obtain ⟨q, n', c', rfl⟩ := okWide_slice Tryd.underlying22 hv
  obtain ⟨fuel, hf⟩ := h
  obtain ⟨p, c, l, hcs, h1, h2, h3⟩ := open_intsL Tryd.underlying22 hf
  simp only [Value.cells, List.cons.injEq, and_true] at hcs
  exact ⟨p, c, l, hcs, h1, h2, h3⟩
end
end Go.Proofs.YtdjjfgkcheimjaaDoor
