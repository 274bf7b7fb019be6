/- What a law's arguments read as: slices of numbers, of spots, of discs; structs of these. -/
import Derived.Test.YtheakjbbfdcbaaaOpen
import Derived.Test.YtheakjbbfdcbaaaLawKit
import Derived.Test.YtheakjbbfdcbaaaInts
import Derived.Deep.SlicePairs
import Derived.Deep.Matrix
import Derived.ChangeSlices
set_option linter.unusedVariables false
set_option maxRecDepth 100000
namespace Go.Proofs.Ytheakjbbfdcbaaa
open Go.ChangeShapes Go.WideShapes Go.ChangeAt Go.RowKit Go.Deep

def numV : Value → Int
  | .int _ n => n
  | _ => 0
section
variable {H : Type} {enc : TypeId × Value → H} {W : World} {base : Nat}

theorem trod_num {n : Nat} {v : Value} {y : DataW H × List MemPlace} {t : TypeId} (ht : Try.prog.underlying t = some (.int .i64)) (h : DataW.trod enc Try.prog W 0 (fun _ => true) true n t [v] = some y) :
    v = .int .i64 (numV v) ∧ -9223372036854775808 ≤ numV v ∧ numV v ≤ 9223372036854775807 := by
  obtain ⟨a, e0, _, wa⟩ := DataW.trod_int ht h
  simp only [List.cons.injEq, and_true] at e0
  subst e0
  exact ⟨rfl, bounds_i64 wa⟩

theorem open_spotsL {fuel : Nat} {cs : List Value} {x : DataW H × List MemPlace} {t : TypeId} (ht : Try.prog.underlying t = some (.slice 40)) (h : DataW.trod enc Try.prog W 0 (fun _ => true) true fuel t cs = some x) :
    ∃ p c l, cs = [.slice p (List.length l) c] ∧ l.length ≤ maxLen ∧ (∀ s ∈ l, (-9223372036854775808 ≤ s.1 ∧ s.1 ≤ 9223372036854775807) ∧ (-9223372036854775808 ≤ s.2 ∧ s.2 ≤ 9223372036854775807)) ∧ Rd W p (l.length * 2) (spotAt l) := by
  rcases open_slice_pairs ht Try.underlying40 (by kernel_rfl) rfl rfl (by kernel_rfl) (by kernel_rfl) h with ⟨hcs, _⟩ | ⟨a, len, cap, m, n, V0, V1, D0, D1, P0, P1, hcs, hb, hl, hm, hmm, _, hi⟩
  · exact ⟨none, 0, [], hcs, by simp, by simp, .inl rfl⟩
  · rw [if_pos rfl] at hmm
    subst hmm
    have hn : ∀ i, i < len → (V0 i = .int .i64 (numV (V0 i)) ∧ -9223372036854775808 ≤ numV (V0 i) ∧ numV (V0 i) ≤ 9223372036854775807) ∧ (V1 i = .int .i64 (numV (V1 i)) ∧ -9223372036854775808 ≤ numV (V1 i) ∧ numV (V1 i) ≤ 9223372036854775807) :=
      fun i h' => ⟨trod_num Try.underlying2 (hi i (by omega)).2.2.1, trod_num Try.underlying2 (hi i (by omega)).2.2.2⟩
    have hlen : ((List.range len).map fun i => (numV (V0 i), numV (V1 i))).length = len := by simp
    refine ⟨some a, m, (List.range len).map fun i => (numV (V0 i), numV (V1 i)), by rw [hlen]; exact hcs, by omega, fun s hs => ?_, ?_⟩
    · obtain ⟨i, h1, rfl⟩ := List.mem_map.1 hs
      have := hn i (List.mem_range.1 h1)
      exact ⟨this.1.2, this.2.2⟩
    · rw [hlen]
      refine Rd.of_add (fun i h' => ?_)
      have hj : i / 2 < len := by omega
      have hg : ((List.range len).map fun i => (numV (V0 i), numV (V1 i))).getD (i / 2) (0, 0) = (numV (V0 (i / 2)), numV (V1 (i / 2))) := by simp [List.getD, List.getElem?_map, List.getElem?_range hj]
      have hx := hi (i / 2) (by omega)
      rw [spotAt, hg]
      by_cases h2 : i % 2 = 0
      · have e : i = i / 2 * 2 := by omega
        rw [if_pos h2, ← (hn _ hj).1.1, ← hx.1, ← e]
      · have e : i = i / 2 * 2 + 1 := by omega
        rw [if_neg h2, ← (hn _ hj).2.1, ← hx.2.1, ← e]
theorem open_Spots {v : Value} {d : DataW H} {ps : List MemPlace} (hv : Value.okWide Try.prog W .any base 22 v) (h : DataW.Trod enc Try.prog W 0 (fun _ => true) true 22 v d ps) :
    ∃ p c l, v = .slice p (List.length l) c ∧ l.length ≤ maxLen ∧ (∀ s ∈ l, (-9223372036854775808 ≤ s.1 ∧ s.1 ≤ 9223372036854775807) ∧ (-9223372036854775808 ≤ s.2 ∧ s.2 ≤ 9223372036854775807)) ∧ Rd W p (l.length * 2) (spotAt l) := by
  obtain ⟨q, n', c', rfl⟩ := okWide_slice Try.underlying22 hv
  obtain ⟨fuel, hf⟩ := h
  obtain ⟨p, c, l, hcs, h1, h2, h3⟩ := open_spotsL Try.underlying22 hf
  simp only [Value.cells, List.cons.injEq, and_true] at hcs
  exact ⟨p, c, l, hcs, h1, h2, h3⟩
theorem open_Element {v : Value} {d : DataW H} {ps : List MemPlace} (hv : Value.okWide Try.prog W .any base 24 v) (h : DataW.Trod enc Try.prog W 0 (fun _ => true) true 24 v d ps) :
    ∃ p c l, v = .agg #[.slice p (List.length l) c] ∧ l.length ≤ maxLen ∧ (∀ s ∈ l, (-9223372036854775808 ≤ s.1 ∧ s.1 ≤ 9223372036854775807) ∧ (-9223372036854775808 ≤ s.2 ∧ s.2 ≤ 9223372036854775807)) ∧ Rd W p (l.length * 2) (spotAt l) := by
  obtain ⟨cs, rfl, hsz⟩ := okWide_struct Try.underlying24 hv
  obtain ⟨fuel, hf⟩ := h
  obtain ⟨y0, n, _, hlen, h0⟩ := trod_struct1 Try.underlying24 hf
  have hc : Try.prog.cellsOf 24 = 1 := by kernel_rfl
  have hc2 : Try.prog.cellsOf 22 = 1 := by kernel_rfl
  rw [hc] at hsz
  obtain ⟨l⟩ := cs
  match l, hsz with
  | [c0], _ =>
    simp only [Value.cells, List.drop_zero, hc2, List.take] at h0
    obtain ⟨p, c, ss, hcs, h1, h2, h3⟩ := open_spotsL Try.underlying22 h0
    simp only [List.cons.injEq, and_true] at hcs
    subst hcs
    exact ⟨p, c, ss, rfl, h1, h2, h3⟩
end
end Go.Proofs.Ytheakjbbfdcbaaa
