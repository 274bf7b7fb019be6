/- What a law's arguments read as: the value of each type of argument, opened. -/
import Derived.Test.YtjplikkehhpomaaLawStr
import Derived.ProofKit
import Derived.OpenShut
import Derived.ShutString
import Derived.Lib.SmallJoins
set_option linter.unusedVariables false
set_option maxRecDepth 100000
namespace Go.Proofs.Ytjplikkehhpomaa
open Go.ChangeShapes Go.WideShapes Go.ChangeAt Go.RowKit Go.Deep

theorem own : ownKnob Try.prog.godebug = none := by kernel_rfl
theorem laidOut : laidOutB Try.prog = true := by kernel_rfl

/-- A row of addresses: where one cell is known the address is plain. -/
theorem Rd.of_add {w : World} {a : Addr} {m : Nat} {f : Nat → Value} (h : ∀ i, i < m → w.cell? (a.add i) = some (f i)) : Rd w (some a) m f := by
  rcases Nat.eq_zero_or_pos m with h0 | hp
  · exact .inl h0
  · obtain ⟨b, off, spot⟩ := a
    have hspot : spot = none := by simpa [Addr.add] using World.cell?_spot (h 0 hp)
    subst hspot
    exact .inr ⟨b, off, rfl, fun j hj => by rw [← Go.WideShapes.add_plain]; exact h j hj⟩

section
variable {H : Type} {enc : TypeId × Value → H} {W : World} {base : Nat}

theorem open_strs {fuel : Nat} {cs : List Value} {x : DataW H × List MemPlace} {t : TypeId} (ht : Try.prog.underlying t = some (.slice 9))
    (h : DataW.trod enc Try.prog W 0 (fun _ => true) true fuel t cs = some x) :
    ∃ p c ss, cs = [.slice p (List.length ss) c] ∧ ss.length ≤ maxLen ∧ (∀ s ∈ ss, s.size ≤ maxLen) ∧ Rd W p ss.length (strAt ss) := by
  rcases open_strings ht Try.underlying9 (by kernel_rfl) h with ⟨hcs, _⟩ | ⟨a, len, cap, ss, hcs, _, hl, hm, hz, _, hcell, hws⟩
  · exact ⟨none, 0, [], hcs, by simp, by simp, .inl rfl⟩
  · rw [if_pos rfl] at hz
    have hlen : (ss.take len).length = len := by rw [List.length_take]; omega
    refine ⟨some a, cap, ss.take len, by rw [hlen]; exact hcs, by omega, fun s hs => hws s (List.mem_of_mem_take hs), ?_⟩
    rw [hlen]
    refine Rd.of_add (fun i hi => ?_)
    rw [hcell i (by omega), strAt]
    congr 2
    simp [List.getD, hi]

theorem open_Spot {v : Value} {d : DataW H} {ps : List MemPlace} (hv : Value.okWide Try.prog W .any base 23 v) (h : DataW.Trod enc Try.prog W 0 (fun _ => true) true 23 v d ps) :
    ∃ x y, v = .agg #[.int .i64 x, .int .i64 y] ∧ (-9223372036854775808 ≤ x ∧ x ≤ 9223372036854775807) ∧ (-9223372036854775808 ≤ y ∧ y ≤ 9223372036854775807) := by
  obtain ⟨c0, c1, y0, y1, n, rfl, rfl, rfl, h0, h1⟩ := Go.Joins.open_agg2 Try.underlying23 (by kernel_rfl) (by kernel_rfl) hv h
  obtain ⟨a, e0, _, wa⟩ := DataW.trod_int Try.underlying2 h0
  obtain ⟨b, e1, _, wb⟩ := DataW.trod_int Try.underlying2 h1
  simp only [List.cons.injEq, and_true] at e0 e1
  subst e0 e1
  exact ⟨a, b, rfl, bounds_i64 wa, bounds_i64 wb⟩
end
end Go.Proofs.Ytjplikkehhpomaa
