/- Contracts of the program's leavesOf and ValidTree. -/
import Derived.Test.YtnenogpagkepfaaTreeI4
import Derived.Test.YtnenogpagkepfaaTreeS5
set_option linter.unusedVariables false
set_option linter.unusedSimpArgs false
namespace Go.Proofs.Ytnenogpagkepfaa
open Go.RowKit

theorem treeOk_rs (k : Nat) (s : ByteArray) : treeOk k s = (rsZ s k 0 == (s.size : Int)) := by
  unfold treeOk rsZ rC
  cases h : pAt s k 0 with
  | none =>
    simp only
    symm
    rw [beq_eq_false_iff_ne]
    omega
  | some q =>
    obtain ⟨T, m⟩ := q
    simp only
    by_cases hc : T.canon = true
    · rw [if_pos hc, hc, Bool.and_true, Bool.eq_iff_iff, decide_eq_true_eq, beq_iff_eq]
      simp only
      omega
    · rw [if_neg hc]
      simp only
      have : T.canon = false := by simpa using hc
      rw [this, Bool.and_false]
      symm
      rw [beq_eq_false_iff_ne]
      omega
/-- The leaves of a tree. -/
def treeLv (n : Int) (s : ByteArray) : List QLeaf := rsL s (lg n) 0 0 0 ByteArray.empty
/-- What leavesOf answers. -/
def LvOut (n : Int) (s : ByteArray) (w : World) (e : Ending) (w' : World) : Prop :=
  Below w.heap.size w w' ∧ ∃ v l, e = .returned (.tuple #[v, .bool (treeV n s)]) ∧ OwnLeaves true 83 w.heap.size w' v l ∧ (treeV n s = true → l = treeLv n s)
set_option maxRecDepth 100000 in
set_option maxHeartbeats 2000000 in
theorem leavesOf_any (n : Int) (s : ByteArray) (w : World) (hs : s.size ≤ maxLen) :
    Calls Try.prog 52 #[.agg #[.int .i64 n, .string s]] w (LvOut n s w) := by
  have V := Blk.new w #[.int .i64 n, .string s] 26
  have S := (Since.refl w).alloc (.cells #[.int .i64 n, .string s] 26)
  have c1 := fun w => sideOk_any n w
  have hv : treeV n s = (sideB n && treeOk (lg n) s) := rfl
  cases h1 : sideB n
  · rw [h1, Bool.false_and] at hv
    simp only [h1] at c1
    have x0 := V.cell 0 rfl
    have C1 := Lib.hid c1; clear c1
    have H1 := Lib.hid h1; clear h1
    have Hv := Lib.hid hv; clear hv
    go_enter Try.func52, Try.ntmps52
    go_wp2_with fail
    with_reducible (refine (C1.out _).mono ?_)
    rintro e w1 ⟨rfl, hb⟩
    replace S := S.bl hb
    go_wp2
    go_ret2
    exact ⟨S.below, _, [], by rw [Hv.out]; rfl, OwnLeaves.nil _ _, fun h => by rw [Hv.out] at h; cases h⟩
  · rw [h1, Bool.true_and, treeOk_rs] at hv
    simp only [h1] at c1
    obtain ⟨hn, hk⟩ := sideB_lg h1
    have hN := pow_le4 hk
    have c2 := fun w => readSquare_any s hs (lg n) hk 0 0 0 0 0 n ByteArray.empty w rfl rfl hn (by omega) (by omega) (by omega) (by have : ByteArray.empty.size = 0 := rfl; omega)
    have hz := treeV n s
    clear hz
    obtain ⟨z, ez⟩ : ∃ z, rsZ s (lg n) 0 = z := ⟨_, rfl⟩
    have c3 : ∀ w, Calls Try.prog 94 #[.string s, .int .i64 0, .agg #[.int .i64 0, .int .i64 0, .int .i64 n], .string ⟨#[]⟩] w (fun e w' => Below w.heap.size w w' ∧ ∃ v, e = .returned (.tuple #[v, .int .i64 z]) ∧ OwnLeaves true 83 w.heap.size w' v (treeLv n s)) := fun w => (c2 w).mono (fun e w' q => by
      obtain ⟨h1, v, h2, h3⟩ := q
      rw [ez] at h2
      exact ⟨h1, v, h2, h3⟩)
    rw [ez] at hv
    have x0 := V.cell 0 rfl
    have hV := V.lt
    clear c2
    have C1 := Lib.hid c1; clear c1
    have C3 := Lib.hid c3; clear c3
    have H1 := Lib.hid h1; clear h1
    have Hv := Lib.hid hv; clear hv
    have Hn := Lib.hid hn; clear hn
    have Ez := Lib.hid ez; clear ez
    go_enter Try.func52, Try.ntmps52
    go_wp2_with fail
    with_reducible (refine (C1.out _).mono ?_)
    rintro e w1 ⟨rfl, hb⟩
    replace S := S.bl hb
    replace V := V.bl hb
    clear hb x0
    have x0 := V.cell 0 rfl
    have x1 := V.cell 1 rfl
    go_wp2_with fail
    with_reducible (refine (C3.out _).mono ?_)
    rintro e w2 ⟨hb, v, rfl, O⟩
    obtain ⟨q, d, rfl⟩ := O.form
    have O2 := O.mono S.size
    replace S := S.bl hb
    replace V := V.bl hb
    clear hb x0 x1 O
    have x0 := V.cell 0 rfl
    have x1 := V.cell 1 rfl
    go_upto_region 4 with (fail)
    go_quiet (fail)
    go_wp2
    go_ret2
    exact ⟨(S.bl (bl_drewN _ _)).below, _, treeLv n s, by rw [Hv.out]; rfl, O2.bl (bl_drewN _ _), fun _ => rfl⟩
set_option maxHeartbeats 1000000 in
theorem validTree_any (n : Int) (s : ByteArray) (w : World) (hs : s.size ≤ maxLen) :
    Calls Try.prog 17 #[.agg #[.int .i64 n, .string s]] w fun e w' => e = .returned (.bool (treeV n s)) ∧ Below w.heap.size w w' := by
  have V := Blk.new w #[.int .i64 n, .string s] 26
  have S := (Since.refl w).alloc (.cells #[.int .i64 n, .string s] 26)
  have c1 := fun w => leavesOf_any n s w hs
  unfold LvOut at c1
  have C1 := Lib.hid c1; clear c1
  go_enter Try.func17, Try.ntmps17
  go_wp2_with fail
  with_reducible (refine (C1.out _).mono ?_)
  rintro e w1 ⟨hb, v, l, rfl, O, hL⟩
  obtain ⟨q, d, rfl⟩ := O.form
  replace S := S.bl hb
  clear hb O hL
  go_wp2
  go_ret
  exact ⟨rfl, S.below⟩
end Go.Proofs.Ytnenogpagkepfaa
