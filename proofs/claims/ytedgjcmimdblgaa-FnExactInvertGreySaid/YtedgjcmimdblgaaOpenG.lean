/- What an argument that is a grey picture reads as. -/
import Derived.Test.YtedgjcmimdblgaaOpen
import Derived.Test.YtedgjcmimdblgaaInts
import Derived.Deep.SlicePairs
import Derived.Deep.Matrix
import Derived.ChangeSlices
set_option linter.unusedVariables false
set_option maxRecDepth 100000
namespace Go.Proofs.Ytedgjcmimdblgaa
open Go.ChangeShapes Go.WideShapes Go.ChangeAt Go.RowKit Go.Deep
section
variable {H : Type} {enc : TypeId × Value → H} {W : World} {base : Nat}
theorem open_intss {fuel : Nat} {cs : List Value} {x : DataW H × List MemPlace} {t : TypeId} (ht : Try.prog.underlying t = some (.slice 40)) (h : DataW.trod enc Try.prog W 0 (fun _ => true) true fuel t cs = some x) :
    ∃ p c L, cs = [.slice p (List.length L) c] ∧ L.length ≤ maxLen ∧ (∀ l ∈ L, List.length l ≤ maxLen) ∧ RdSS W p L := by
  rcases open_int_rows ht Try.underlying40 Try.underlying2 (by kernel_rfl) (by kernel_rfl) h with ⟨hcs, _⟩ | ⟨a, len, cap, A, Ln, C, Z, hcs, _, hl, hm, _, hr⟩
  · exact ⟨none, 0, [], hcs, by simp, by simp, fun _ => undef, .inl rfl, fun i hi => absurd hi (Nat.not_lt_zero _)⟩
  · have hlen : ((List.range len).map fun r => (Z r).take (Ln r)).length = len := by simp
    have hat : ∀ i, i < len → (((List.range len).map fun r => (Z r).take (Ln r)).getD i []) = (Z i).take (Ln i) := fun i hi => by simp [List.getD, List.getElem?_map, List.getElem?_range hi]
    refine ⟨some a, cap, (List.range len).map fun r => (Z r).take (Ln r), by rw [hlen]; exact hcs, by omega, ?_, fun i => .slice (A i) (Ln i) (C i), ?_, ?_⟩
    · intro l hl'
      obtain ⟨r, hr', rfl⟩ := List.mem_map.1 hl'
      have hr2 := List.mem_range.1 hr'
      obtain ⟨_, h2, h3, h4, _⟩ := hr r (by omega)
      rw [List.length_take]
      omega
    · rw [hlen]
      exact Rd.of_add (fun i hi => (hr i (by omega)).1)
    · intro i hi
      rw [hlen] at hi
      obtain ⟨_, h2, h3, h4, _, h5, h6⟩ := hr i (by omega)
      rw [hat i hi]
      have hz : ((Z i).take (Ln i)).length = Ln i := by rw [List.length_take]; omega
      refine ⟨A i, C i, by rw [hz], ?_⟩
      rw [hz]
      cases hA : A i with
      | none =>
        have := h5 hA
        exact .inl (by omega)
      | some a' =>
        refine Rd.of_add (fun j hj => ?_)
        rw [(h6 a' hA).2 j (by omega), intAt]
        congr 2
        simp [List.getD, hj]
theorem open_Grey {v : Value} {d : DataW H} {ps : List MemPlace} (hv : Value.okWide Try.prog W .any base 24 v) (h : DataW.Trod enc Try.prog W 0 (fun _ => true) true 24 v d ps) :
    ∃ p c L, v = .agg #[.slice p (List.length L) c] ∧ L.length ≤ maxLen ∧ (∀ l ∈ L, List.length l ≤ maxLen) ∧ RdSS W p L := by
  obtain ⟨cs, rfl, hsz⟩ := okWide_struct Try.underlying24 hv
  obtain ⟨fuel, hf⟩ := h
  obtain ⟨y0, n, _, hlen, h0⟩ := trod_struct1 Try.underlying24 hf
  have hc : Try.prog.cellsOf 24 = 1 := by kernel_rfl
  have hc2 : Try.prog.cellsOf 22 = 1 := by kernel_rfl
  rw [hc] at hsz
  obtain ⟨l⟩ := cs
  match l, hsz with
  | [c0], _ =>
    simp only [Value.cells, List.drop_zero, hc2, List.take] at h0
    obtain ⟨p, c, L, hcs, h1, h2, h3⟩ := open_intss Try.underlying22 h0
    simp only [List.cons.injEq, and_true] at hcs
    subst hcs
    exact ⟨p, c, L, rfl, h1, h2, h3⟩
end
end Go.Proofs.Ytedgjcmimdblgaa
