/- Contracts of all, ContainsFunc and IndexFunc over spots. -/
import Derived.Test.YtnenogpagkepfaaSpots
set_option linter.unusedVariables false
namespace Go.Proofs.Ytnenogpagkepfaa
open Go.RowKit

theorem getD_memS {l : List (Int × Int)} {k : Nat} (h : k < l.length) : l.getD k (0, 0) ∈ l := by simp [List.getD, List.getElem?_eq_getElem h]
theorem spots_take {l : List (Int × Int)} {j : Nat} (h : j < l.length) : l.take (j + 1) = l.take j ++ [l.getD j (0, 0)] := by
  rw [List.take_succ_eq_append_getElem h]; simp [List.getD, List.getElem?_eq_getElem h]
end Go.Proofs.Ytnenogpagkepfaa
