/- What a law's arguments read as: slices of numbers, of spots, of discs; structs of these. -/
import Derived.Test.YtjplikkehhpomaaOpen
import Derived.Test.YtjplikkehhpomaaLawKit
import Derived.Test.YtjplikkehhpomaaInts
import Derived.Deep.SlicePairs
import Derived.Deep.Matrix
import Derived.ChangeSlices
set_option linter.unusedVariables false
set_option maxRecDepth 100000
namespace Go.Proofs.Ytjplikkehhpomaa
open Go.ChangeShapes Go.WideShapes Go.ChangeAt Go.RowKit Go.Deep

def numV : Value → Int
  | .int _ n => n
  | _ => 0
section
variable {H : Type} {enc : TypeId × Value → H} {W : World} {base : Nat}

theorem trod_num {n : Nat} {v : Value} {y : DataW H × List MemPlace} {t : TypeId} (ht : Try.prog.underlying t = some (.int .i64)) (h : DataW.trod enc Try.prog W 0 (fun _ => true) true n t [v] = some y) :
    v = .int .i64 (numV v) ∧ -9223372036854775808 ≤ numV v ∧ numV v ≤ 9223372036854775807 := by
  obtain ⟨a, e0, _, wa⟩ := DataW.trod_int ht h
  simp only [List.cons.injEq, and_true] at e0
  subst e0
  exact ⟨rfl, bounds_i64 wa⟩

theorem open_spotsL {fuel : Nat} {cs : List Value} {x : DataW H × List MemPlace} {t : TypeId} (ht : Try.prog.underlying t = some (.slice 23)) (h : DataW.trod enc Try.prog W 0 (fun _ => true) true fuel t cs = some x) :
    ∃ p c l, cs = [.slice p (List.length l) c] ∧ l.length ≤ maxLen ∧ (∀ s ∈ l, (-9223372036854775808 ≤ s.1 ∧ s.1 ≤ 9223372036854775807) ∧ (-9223372036854775808 ≤ s.2 ∧ s.2 ≤ 9223372036854775807)) ∧ Rd W p (l.length * 2) (spotAt l) := by
  rcases open_slice_pairs ht Try.underlying23 (by kernel_rfl) rfl rfl (by kernel_rfl) (by kernel_rfl) h with ⟨hcs, _⟩ | ⟨a, len, cap, m, n, V0, V1, D0, D1, P0, P1, hcs, hb, hl, hm, hmm, _, hi⟩
  · exact ⟨none, 0, [], hcs, by simp, by simp, .inl rfl⟩
  · rw [if_pos rfl] at hmm
    subst hmm
    have hn : ∀ i, i < len → (V0 i = .int .i64 (numV (V0 i)) ∧ -9223372036854775808 ≤ numV (V0 i) ∧ numV (V0 i) ≤ 9223372036854775807) ∧ (V1 i = .int .i64 (numV (V1 i)) ∧ -9223372036854775808 ≤ numV (V1 i) ∧ numV (V1 i) ≤ 9223372036854775807) :=
      fun i h' => ⟨trod_num Try.underlying2 (hi i (by omega)).2.2.1, trod_num Try.underlying2 (hi i (by omega)).2.2.2⟩
    have hlen : ((List.range len).map fun i => (numV (V0 i), numV (V1 i))).length = len := by simp
    refine ⟨some a, m, (List.range len).map fun i => (numV (V0 i), numV (V1 i)), by rw [hlen]; exact hcs, by omega, fun s hs => ?_, ?_⟩
    · obtain ⟨i, h1, rfl⟩ := List.mem_map.1 hs
      have := hn i (List.mem_range.1 h1)
      exact ⟨this.1.2, this.2.2⟩
    · rw [hlen]
      refine Rd.of_add (fun i h' => ?_)
      have hj : i / 2 < len := by omega
      have hg : ((List.range len).map fun i => (numV (V0 i), numV (V1 i))).getD (i / 2) (0, 0) = (numV (V0 (i / 2)), numV (V1 (i / 2))) := by simp [List.getD, List.getElem?_map, List.getElem?_range hj]
      have hx := hi (i / 2) (by omega)
      rw [spotAt, hg]
      by_cases h2 : i % 2 = 0
      · have e : i = i / 2 * 2 := by omega
        rw [if_pos h2, ← (hn _ hj).1.1, ← hx.1, ← e]
      · have e : i = i / 2 * 2 + 1 := by omega
        rw [if_neg h2, ← (hn _ hj).2.1, ← hx.2.1, ← e]
theorem open_Spots {v : Value} {d : DataW H} {ps : List MemPlace} (hv : Value.okWide Try.prog W .any base 40 v) (h : DataW.Trod enc Try.prog W 0 (fun _ => true) true 40 v d ps) :
    ∃ p c l, v = .slice p (List.length l) c ∧ l.length ≤ maxLen ∧ (∀ s ∈ l, (-9223372036854775808 ≤ s.1 ∧ s.1 ≤ 9223372036854775807) ∧ (-9223372036854775808 ≤ s.2 ∧ s.2 ≤ 9223372036854775807)) ∧ Rd W p (l.length * 2) (spotAt l) := by
  obtain ⟨q, n', c', rfl⟩ := okWide_slice Try.underlying40 hv
  obtain ⟨fuel, hf⟩ := h
  obtain ⟨p, c, l, hcs, h1, h2, h3⟩ := open_spotsL Try.underlying40 hf
  simp only [Value.cells, List.cons.injEq, and_true] at hcs
  exact ⟨p, c, l, hcs, h1, h2, h3⟩
theorem open_Border {v : Value} {d : DataW H} {ps : List MemPlace} (hv : Value.okWide Try.prog W .any base 25 v) (h : DataW.Trod enc Try.prog W 0 (fun _ => true) true 25 v d ps) :
    ∃ x y s, v = .agg #[.int .i64 x, .int .i64 y, .string s] ∧ (-9223372036854775808 ≤ x ∧ x ≤ 9223372036854775807) ∧ (-9223372036854775808 ≤ y ∧ y ≤ 9223372036854775807) ∧ s.size ≤ maxLen := by
  obtain ⟨cs, rfl, hsz⟩ := okWide_struct Try.underlying25 hv
  obtain ⟨fuel, hf⟩ := h
  obtain ⟨y0, y1, n, _, hlen, h0, h1⟩ := trod_struct2 Try.underlying25 hf
  have hc : Try.prog.cellsOf 25 = 3 := by kernel_rfl
  have hc2 : Try.prog.cellsOf 23 = 2 := by kernel_rfl
  have hc3 : Try.prog.cellsOf 9 = 1 := by kernel_rfl
  rw [hc] at hsz
  obtain ⟨l⟩ := cs
  match l, hsz with
  | [c0, c1, c2], _ =>
    simp only [Value.cells, List.drop_zero, hc2, hc3, List.take, List.drop] at h0 h1
    obtain ⟨z0, z1, n', _, _, g0, g1⟩ := trod_struct2 Try.underlying23 h0
    have hc4 : Try.prog.cellsOf 2 = 1 := by kernel_rfl
    simp only [List.drop_zero, hc4, List.take, List.drop] at g0 g1
    obtain ⟨a, e0, _, wa⟩ := DataW.trod_int Try.underlying2 g0
    obtain ⟨b, e1, _, wb⟩ := DataW.trod_int Try.underlying2 g1
    obtain ⟨s, e2, _, ws⟩ := DataW.trod_string Try.underlying9 h1
    simp only [List.cons.injEq, and_true] at e0 e1 e2
    subst e0 e1 e2
    exact ⟨a, b, s, rfl, bounds_i64 wa, bounds_i64 wb, ws⟩
end
end Go.Proofs.Ytjplikkehhpomaa
