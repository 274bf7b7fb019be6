/- Contracts of both Decimal at the card's seat. -/
import Derived.Test.YtdjjfgkcheimjaaDoorDec
import Derived.LaidSub
import Derived.Lib.AppendIntMem
set_option linter.unusedVariables false
set_option linter.unusedSimpArgs false
namespace Go.Proofs.YtdjjfgkcheimjaaDoor
open Go.RowKit

/-- The table of powers, as the row lists it. -/
theorem pow_tab {l : List (String × DataW Unit)} {w : World} (h : laidMetH Tryd.prog l w) (hp : (l.all fun x => x.2.handleName?.isNone) = true)
    (hm : l.filter (fun x => x.1 == "internal/strconv.uint64pow10") = [("internal/strconv.uint64pow10", Lib.tabData .u64 Lib.pow10Tab)]) : Lib.TabIs Tryd.prog w "internal/strconv.uint64pow10" .u64 Lib.pow10Tab := by
  rw [MakeChecks.laidMetH_plain _ _ _ hp] at h
  have h2 := laidMet.filter (fun x => x.1 == "internal/strconv.uint64pow10") h
  rw [hm] at h2
  exact Lib.tabIs_of_head gPow (t := 101) (by kernel_rfl) Tryd.underlying101 Tryd.underlying70 (by kernel_rfl) (by kernel_rfl) h2
def PowT (w : World) : Prop := Lib.TabIs Tryd.prog w "internal/strconv.uint64pow10" .u64 Lib.pow10Tab
theorem PowT.bl {w w' : World} (h : PowT w) (hb : Below w.heap.size w w') : PowT w' := Joins.tab_stays gPow h hb (Nat.le_refl _)
theorem implDecimal_any (n : Int) (w : World) (h0 : -9223372036854775808 ≤ n) (h1 : n ≤ 9223372036854775807) (hT : PowT w) :
    Calls Tryd.prog 14 #[.int .i64 n] w fun e w' => e = .returned (.string (decS n)) ∧ Below w.heap.size w w' := by
  have c := Tryd.strconv_FormatInt_10 n h0 h1 w hT
  replace c := c.mono fun e w' (h : e = .returned (.string ⟨(Lib.itoa n).toArray⟩) ∧ ∃ k os, w' = Sort.grow (w.drewN k) os) => show e = .returned (.string (decS n)) ∧ Below w.heap.size w w' from ⟨h.1, by obtain ⟨_, k, os, e⟩ := h; rw [e]; exact Lib.below_grow _ _ (Nat.le_refl _) k os⟩
  clear hT
  have C := Lib.hid c; clear c
  go_enter Tryd.func14, Tryd.ntmps14
  go_wp2_with fail
  with_reducible (refine C.out.mono ?_)
  rintro _ w' ⟨rfl, hb⟩
  go_wp2
  go_ret
  exact ⟨rfl, hb⟩
theorem specDecimal_any (n : Int) (w : World) (h0 : -9223372036854775808 ≤ n) (h1 : n ≤ 9223372036854775807) :
    Calls Tryd.prog 13 #[.int .i64 n] w fun e w' => e = .returned (.string (decS n)) ∧ Below w.heap.size w w' := by
  have c := l01Dec_any n w h0 h1
  have C := Lib.hid c; clear c
  go_enter Tryd.func13, Tryd.ntmps13
  go_wp2_with fail
  with_reducible (refine C.out.mono ?_)
  rintro _ w' ⟨rfl, hb⟩
  go_wp2
  go_ret
  exact ⟨rfl, hb⟩
end Go.Proofs.YtdjjfgkcheimjaaDoor
