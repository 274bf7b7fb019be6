/- Contract of the program's AddressOf. -/
import Derived.Test.YtnenogpagkepfaaTreeQ2
set_option linter.unusedVariables false
set_option linter.unusedSimpArgs false
namespace Go.Proofs.Ytnenogpagkepfaa
open Go.RowKit

set_option maxRecDepth 100000 in
set_option maxHeartbeats 2000000 in
theorem addressOf_any (n : Int) (s : ByteArray) (k : Int) (w : World) (hs : s.size ≤ maxLen) (h0 : -9223372036854775808 ≤ k) (h1 : k ≤ 9223372036854775807) :
    Calls Try.prog 19 #[.agg #[.int .i64 n, .string s], .int .i64 k] w fun e w' => e = .returned (.tuple #[.string (aoS n s k), .bool (aoOk n s k)]) ∧ Below w.heap.size w w' := by
  have S := (Since.refl w).alloc (.cells #[.int .i64 n, .string s] 26)
  have c0 := fun w => leavesOf_any n s w hs
  unfold LvOut at c0
  cases hv : treeV n s
  · have ha := ao_no (k := k) hv
    have hb := aoS_no ha
    rw [ha, hb]
    simp only [hv] at c0
    have C0 := Lib.hid c0; clear c0
    have Hv := Lib.hid hv; clear hv
    have Ha := Lib.hid ha; clear ha
    have Hb := Lib.hid hb; clear hb
    go_enter Try.func19, Try.ntmps19
    go_wp2_with fail
    with_reducible (refine (C0.out _).mono ?_)
    rintro e w1 ⟨hb, v, L, rfl, O, hL⟩
    obtain ⟨q, d, rfl⟩ := O.form
    replace S := S.bl hb
    clear hb O hL
    go_wp2
    go_ret2
    exact ⟨rfl, S.below⟩
  · simp only [hv] at c0
    have lok := treeLv_ok hv
    have hl1 := lok.pos
    have hl2 := lok.len
    have c1 := fun w => in_any k 0 (((treeLv n s).length : Int) - 1) w
    cases hi : inB k 0 (((treeLv n s).length : Int) - 1)
    · have ha := ao_out hi
      have hb := aoS_no ha
      rw [ha, hb]
      simp only [hi] at c1
      generalize treeLv n s = LV at *
      have C0 := Lib.hid c0; clear c0
      have Hv := Lib.hid hv; clear hv
      have Ha := Lib.hid ha; clear ha
      have Hb := Lib.hid hb; clear hb
      have C1 := Lib.hid c1; clear c1
      have Hi := Lib.hid hi; clear hi
      clear lok
      go_enter Try.func19, Try.ntmps19
      go_wp2_with fail
      with_reducible (refine (C0.out _).mono ?_)
      rintro e w1 ⟨hb, v, L, rfl, O, hL⟩
      have hL2 : L = LV := hL (by trivial)
      subst hL2
      obtain ⟨q, d, rfl⟩ := O.form
      replace S := S.bl hb
      clear hb O hL
      go_wp2_with fail
      with_reducible (refine (C1.out _).mono ?_)
      rintro e w2 ⟨rfl, rfl⟩
      go_wp2
      go_ret2
      exact ⟨rfl, S.below⟩
    · have ha := ao_yes hv hi
      have hb : aoS n s k = ((treeLv n s).getD k.toNat noLeaf).addr := by rw [aoS, ha]; rfl
      rw [ha, hb]
      simp only [hi] at c1
      obtain ⟨hk0, hk1⟩ := inB_true hi
      obtain ⟨kn, rfl⟩ : ∃ kn : Nat, k = kn := ⟨k.toNat, by omega⟩
      rw [Int.toNat_natCast]
      have hkn : kn < (treeLv n s).length := by omega
      generalize treeLv n s = LV at *
      obtain ⟨A, eA⟩ : ∃ A, (LV.getD kn noLeaf).addr = A := ⟨_, rfl⟩
      rw [eA]
      have C0 := Lib.hid c0; clear c0
      have Hv := Lib.hid hv; clear hv
      have Ha := Lib.hid ha; clear ha
      have Hb := Lib.hid hb; clear hb
      have C1 := Lib.hid c1; clear c1
      have Hi := Lib.hid hi; clear hi
      have EA := Lib.hid eA; clear eA
      clear lok
      go_enter Try.func19, Try.ntmps19
      go_wp2_with fail
      with_reducible (refine (C0.out _).mono ?_)
      rintro e w1 ⟨hb, v, L, rfl, O, hL⟩
      have hL2 : L = LV := hL (by trivial)
      subst hL2
      obtain ⟨q, d, rfl⟩ := O.form
      obtain ⟨b, o, rfl, hbl, x0, x1, x2, x3, x4⟩ := leaf_cells O.rd hkn
      replace S := S.bl hb
      rw [EA.out] at x4
      clear hb O hL x0 x1 x2 x3
      go_wp2_with fail
      with_reducible (refine (C1.out _).mono ?_)
      rintro e w2 ⟨rfl, rfl⟩
      go_wp2
      go_ret2
      exact ⟨rfl, S.below⟩
end Go.Proofs.Ytnenogpagkepfaa
