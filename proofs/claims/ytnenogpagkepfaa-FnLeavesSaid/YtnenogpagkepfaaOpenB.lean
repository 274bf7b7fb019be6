/- What an argument of bytes reads as. -/
import Derived.Test.YtnenogpagkepfaaOpen
import Derived.Test.YtnenogpagkepfaaSrc
import Derived.Deep.SlicePairs
import Derived.Deep.Matrix
import Derived.ChangeSlices
set_option linter.unusedVariables false
set_option maxRecDepth 100000
namespace Go.Proofs.Ytnenogpagkepfaa
open Go.ChangeShapes Go.WideShapes Go.ChangeAt Go.RowKit Go.Deep
section
variable {H : Type} {enc : TypeId × Value → H} {W : World} {base : Nat}
theorem open_bytesL {fuel : Nat} {cs : List Value} {x : DataW H × List MemPlace} {t : TypeId} (ht : Try.prog.underlying t = some (.slice 5)) (h : DataW.trod enc Try.prog W 0 (fun _ => true) true fuel t cs = some x) :
    ∃ p c l, cs = [.slice p (List.length l) c] ∧ l.length ≤ maxLen ∧ (∀ s ∈ l, 0 ≤ s ∧ s ≤ 255) ∧ Rd W p l.length (byteAt l) := by
  rcases open_ints ht Try.underlying5 (by kernel_rfl) h with ⟨hcs, _⟩ | ⟨a, len, cap, zs, hcs, _, hl, hm, hz, _, hcell, hws⟩
  · exact ⟨none, 0, [], hcs, by simp, by simp, .inl rfl⟩
  · rw [if_pos rfl] at hz
    have hlen : (zs.take len).length = len := by rw [List.length_take]; omega
    refine ⟨some a, cap, zs.take len, by rw [hlen]; exact hcs, by omega, fun s hs => ?_, ?_⟩
    · obtain ⟨i, hi, e⟩ := List.getElem_of_mem (List.mem_of_mem_take hs)
      have := range_u8 hws i
      rw [List.getElem?_eq_getElem hi, e] at this
      simp only [Option.getD_some] at this
      omega
    · rw [hlen]
      refine Rd.of_add (fun i hi => ?_)
      rw [hcell i (by omega), byteAt]
      congr 2
      simp [List.getD, hi]
theorem open_Bytes {v : Value} {d : DataW H} {ps : List MemPlace} (hv : Value.okWide Try.prog W .any base 55 v) (h : DataW.Trod enc Try.prog W 0 (fun _ => true) true 55 v d ps) :
    ∃ p c l, v = .slice p (List.length l) c ∧ l.length ≤ maxLen ∧ (∀ s ∈ l, 0 ≤ s ∧ s ≤ 255) ∧ Rd W p l.length (byteAt l) := by
  obtain ⟨q, n', c', rfl⟩ := okWide_slice Try.underlying55 hv
  obtain ⟨fuel, hf⟩ := h
  obtain ⟨p, c, l, hcs, h1, h2, h3⟩ := open_bytesL Try.underlying55 hf
  simp only [Value.cells, List.cons.injEq, and_true] at hcs
  exact ⟨p, c, l, hcs, h1, h2, h3⟩
end
end Go.Proofs.Ytnenogpagkepfaa
