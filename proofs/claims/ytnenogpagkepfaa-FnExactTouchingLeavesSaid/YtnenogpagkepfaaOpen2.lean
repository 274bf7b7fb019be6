/- What a law's arguments read as: slices of numbers, of spots, of discs; structs of these. -/
import Derived.Test.YtnenogpagkepfaaOpen
import Derived.Test.YtnenogpagkepfaaLawKit
import Derived.Test.YtnenogpagkepfaaInts
import Derived.Deep.SlicePairs
import Derived.Deep.Matrix
import Derived.ChangeSlices
set_option linter.unusedVariables false
set_option maxRecDepth 100000
namespace Go.Proofs.Ytnenogpagkepfaa
open Go.ChangeShapes Go.WideShapes Go.ChangeAt Go.RowKit Go.Deep

def numV : Value → Int
  | .int _ n => n
  | _ => 0
section
variable {H : Type} {enc : TypeId × Value → H} {W : World} {base : Nat}

theorem trod_num {n : Nat} {v : Value} {y : DataW H × List MemPlace} {t : TypeId} (ht : Try.prog.underlying t = some (.int .i64)) (h : DataW.trod enc Try.prog W 0 (fun _ => true) true n t [v] = some y) :
    v = .int .i64 (numV v) ∧ -9223372036854775808 ≤ numV v ∧ numV v ≤ 9223372036854775807 := by
  obtain ⟨a, e0, _, wa⟩ := DataW.trod_int ht h
  simp only [List.cons.injEq, and_true] at e0
  subst e0
  exact ⟨rfl, bounds_i64 wa⟩

theorem open_Tree {v : Value} {d : DataW H} {ps : List MemPlace} (hv : Value.okWide Try.prog W .any base 23 v) (h : DataW.Trod enc Try.prog W 0 (fun _ => true) true 23 v d ps) :
    ∃ n s, v = .agg #[.int .i64 n, .string s] ∧ (-9223372036854775808 ≤ n ∧ n ≤ 9223372036854775807) ∧ s.size ≤ maxLen := by
  obtain ⟨c0, c1, y0, y1, n, rfl, rfl, rfl, h0, h1⟩ := Go.Joins.open_agg2 Try.underlying23 (by kernel_rfl) (by kernel_rfl) hv h
  obtain ⟨a, e0, _, wa⟩ := DataW.trod_int Try.underlying2 h0
  obtain ⟨b, e1, _, wb⟩ := DataW.trod_string Try.underlying9 h1
  simp only [List.cons.injEq, and_true] at e0 e1
  subst e0 e1
  exact ⟨a, b, rfl, bounds_i64 wa, wb⟩
theorem open_intsL {fuel : Nat} {cs : List Value} {x : DataW H × List MemPlace} {t : TypeId} (ht : Try.prog.underlying t = some (.slice 2)) (h : DataW.trod enc Try.prog W 0 (fun _ => true) true fuel t cs = some x) :
    ∃ p c l, cs = [.slice p (List.length l) c] ∧ l.length ≤ maxLen ∧ (∀ s ∈ l, -9223372036854775808 ≤ s ∧ s ≤ 9223372036854775807) ∧ Rd W p l.length (intAt l) := by
  rcases open_ints ht Try.underlying2 (by kernel_rfl) h with ⟨hcs, _⟩ | ⟨a, len, cap, zs, hcs, _, hl, hm, hz, _, hcell, hws⟩
  · exact ⟨none, 0, [], hcs, by simp, by simp, .inl rfl⟩
  · rw [if_pos rfl] at hz
    have hlen : (zs.take len).length = len := by rw [List.length_take]; omega
    refine ⟨some a, cap, zs.take len, by rw [hlen]; exact hcs, by omega, fun s hs => bounds_i64 (hws s (List.mem_of_mem_take hs)), ?_⟩
    rw [hlen]
    refine Rd.of_add (fun i hi => ?_)
    rw [hcell i (by omega), intAt]
    congr 2
    simp [List.getD, hi]
theorem open_Ints {v : Value} {d : DataW H} {ps : List MemPlace} (hv : Value.okWide Try.prog W .any base 47 v) (h : DataW.Trod enc Try.prog W 0 (fun _ => true) true 47 v d ps) :
    ∃ p c l, v = .slice p (List.length l) c ∧ l.length ≤ maxLen ∧ (∀ s ∈ l, -9223372036854775808 ≤ s ∧ s ≤ 9223372036854775807) ∧ Rd W p l.length (intAt l) := by
  obtain ⟨q, n', c', rfl⟩ := okWide_slice Try.underlying47 hv
  obtain ⟨fuel, hf⟩ := h
  obtain ⟨p, c, l, hcs, h1, h2, h3⟩ := open_intsL Try.underlying47 hf
  simp only [Value.cells, List.cons.injEq, and_true] at hcs
  exact ⟨p, c, l, hcs, h1, h2, h3⟩
end
end Go.Proofs.Ytnenogpagkepfaa
