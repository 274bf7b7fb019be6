/- Contracts of the drawn spots and of a number that an input chooses. -/
import Derived.Test.YtnenogpagkepfaaSrc
import Derived.Test.YtnenogpagkepfaaSpots
set_option linter.unusedVariables false
namespace Go.Proofs.Ytnenogpagkepfaa
open Go.RowKit

set_option maxHeartbeats 1000000 in
theorem r8At_any (p : Option Addr) (c : Nat) (l : List Int) (k n : Nat) (ki ni : Int) (w : World) (hki : ki = k) (hni : ni = n) (hn : 2 ≤ n) (hn2 : n ≤ 1000000) (hk : k ≤ 1000000) (hl : l.length ≤ 1048576) (hr : Rd w p l.length (byteAt l)) (hby : ∀ x ∈ l, 0 ≤ x ∧ x ≤ 255) :
    Calls Try.prog 40 #[.slice p l.length c, .int .i64 ki, .int .i64 ni] w fun e w' => ∃ r : Nat, r < n ∧ e = .returned (.int .i64 r) ∧ w = w' := by
  subst hki hni
  by_cases hlt : k < l.length
  · obtain ⟨pb, po, rfl, hb, hc⟩ := hr.at hlt
    have c3 := hc k hlt
    have hv := hby (l.getD k 0) (by simp [List.getD, List.getElem?_eq_getElem hlt])
    unfold byteAt at c3
    generalize l.getD k 0 = v at *
    obtain ⟨v, rfl⟩ := Int.eq_ofNat_of_zero_le hv.1
    obtain ⟨hv0, hv1⟩ := hv
    have ha0 : (0 : Int) ≤ (k : Int) := Int.natCast_nonneg _
    have ha1 : (k : Int) < (l.length : Int) := by omega
    have hn0 : (n : Int) ≠ 0 := by omega
    have hm : Int.tmod (v : Int) (n : Int) = ((v % n : Nat) : Int) := by rw [Int.ofNat_tmod]
    have hlt2 := Nat.mod_lt v (show 0 < n by omega)
    have Hm := Lib.hid hm; clear hm
    clear hc hr hby
    go_enter Try.func40, Try.ntmps40
    go_wp2
    go_ret
    exact ⟨v % n, hlt2, ret_int (by first | exact Hm.out | rfl | omega), rfl⟩
  · go_enter Try.func40, Try.ntmps40
    go_wp2
    go_ret
    exact ⟨0, by omega, rfl, rfl⟩
set_option maxHeartbeats 1000000 in
theorem r8Long_any (p q : Option Addr) (c d n m : Nat) (w : World) :
    Calls Try.prog 37 #[.slice p n c, .slice q m d] w fun e w' => e = .returned (.bool (decide (48 < n) || decide (48 < m))) ∧ w = w' := by
  by_cases h1 : 48 < n
  · go_enter Try.func37, Try.ntmps37
    go_wp2
    go_ret
    exact ⟨ret_bool (by simp [h1]), rfl⟩
  · by_cases h2 : 48 < m
    · go_enter Try.func37, Try.ntmps37
      go_wp2
      go_ret
      exact ⟨ret_bool (by rw [Bool.eq_iff_iff]; simp; omega), rfl⟩
    · go_enter Try.func37, Try.ntmps37
      go_wp2
      go_ret
      exact ⟨ret_bool (by rw [Bool.eq_iff_iff]; simp; omega), rfl⟩
end Go.Proofs.Ytnenogpagkepfaa
