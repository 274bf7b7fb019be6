/- The law of TouchingLeaves: for every input the call returns true, and the inputs read as they did. -/
import Derived.Test.YtnenogpagkepfaaTreeTc2
import Derived.Test.YtnenogpagkepfaaLawIS
import Derived.Test.YtnenogpagkepfaaLawTree
import Derived.Test.YtnenogpagkepfaaLawKit
import Derived.Test.YtnenogpagkepfaaOpen2
set_option linter.unusedVariables false
set_option linter.unusedSimpArgs false
namespace Go.Proofs.Ytnenogpagkepfaa.lawTouchingLeaves
open Go.RowKit Go.Proofs.Ytnenogpagkepfaa
theorem tl_len (n : Int) (s : ByteArray) (k : Int) : (tlL n s k).length ≤ 1048576 := by
  cases h : aoOk n s k
  · rw [tl_no h]; simp
  · rw [tl_yes h]
    have hv : treeV n s = true := by
      cases hv : treeV n s
      · rw [ao_no hv] at h; cases h
      · rfl
    have h1 := (treeLv_ok hv).len
    have h2 := touchN_len (treeLv n s) ((treeLv n s).getD k.toNat noLeaf) (treeLv n s).length
    omega
set_option maxRecDepth 100000 in
set_option maxHeartbeats 4000000 in
theorem walk (n : Int) (s : ByteArray) (k : Int) (w : World) (hb0' : -9223372036854775808 ≤ n ∧ n ≤ 9223372036854775807) (hc0' : s.size ≤ maxLen) (hb1' : -9223372036854775808 ≤ k ∧ k ≤ 9223372036854775807) :
    Calls Try.prog 8 #[.agg #[.int .i64 n, .string s], .int .i64 k] w fun e w' => e = .returned (.bool true) ∧ Below w.heap.size w w' := by
  rcases Int.lt_or_le (1048576 - (s.size : Int)) 0 with z0 | z0
  · have S := Since.refl w
    replace S := S.bl (bl_alloc w (.cells #[.int .i64 n, .string s] 23))
    have A0 := Blk.new w #[.int .i64 n, .string s] 23
    go_enter Try.func8, Try.ntmps8
    have kA0_0 := A0.cell 0 rfl
    have kA0_1 := A0.cell 1 rfl
    go_wp2_with fail
    refine (szTree_any _ _ _ _ hc0' (by omega) (by omega)).mono ?_
    rw [if_pos (by omega)]
    rintro e w1 ⟨rfl, hb⟩
    replace S := S.bl hb
    replace A0 := A0.bl hb
    have z_1 := hb.size
    (try simp only [World.size_alloc, World.size_setCell, szDrew] at z_1)
    clear hb
    clear kA0_0 kA0_1
    have kA0_0 := A0.cell 0 rfl
    have kA0_1 := A0.cell 1 rfl
    go_wp2
    go_ret
    exact ⟨rfl, S.below⟩
  · have hn0 : s.size ≤ 1048576 := by omega
    have zl0 : 1048576 - (s.size : Int) ≤ 1048576 := by omega
    have S := Since.refl w
    replace S := S.bl (bl_alloc w (.cells #[.int .i64 n, .string s] 23))
    have A0 := Blk.new w #[.int .i64 n, .string s] 23
    go_enter Try.func8, Try.ntmps8
    have kA0_0 := A0.cell 0 rfl
    have kA0_1 := A0.cell 1 rfl
    go_wp2_with fail
    refine (szTree_any _ _ _ _ hc0' (by omega) (by omega)).mono ?_
    rw [if_neg (by omega)]
    rintro e w1 ⟨rfl, hb⟩
    replace S := S.bl hb
    replace A0 := A0.bl hb
    have z_1 := hb.size
    (try simp only [World.size_alloc, World.size_setCell, szDrew] at z_1)
    clear hb
    clear kA0_0 kA0_1
    have kA0_0 := A0.cell 0 rfl
    have kA0_1 := A0.cell 1 rfl
    go_wp2_with fail
    refine (toTree_g _ _ _).mono ?_
    rintro e w2 ⟨rfl, hb⟩
    replace S := S.bl hb
    replace A0 := A0.bl hb
    have z_2 := hb.size
    (try simp only [World.size_alloc, World.size_setCell, szDrew] at z_2)
    clear hb
    clear kA0_0 kA0_1
    have kA0_0 := A0.cell 0 rfl
    have kA0_1 := A0.cell 1 rfl
    go_wp2_with fail
    refine (sTouching_any n s k _ hc0' hb1'.1 hb1'.2).mono ?_
    rintro e w3 ⟨vW0, rfl, OW0, hb⟩
    replace S := S.bl hb
    replace A0 := A0.bl hb
    have z_3 := hb.size
    (try simp only [World.size_alloc, World.size_setCell, szDrew] at z_3)
    obtain ⟨pW0, dW0, rfl⟩ := OW0.form
    have bW0 := OW0.ge
    (try simp only [World.size_alloc, World.size_setCell, szDrew] at bW0)
    clear hb
    clear kA0_0 kA0_1
    have kA0_0 := A0.cell 0 rfl
    have kA0_1 := A0.cell 1 rfl
    go_wp2_with fail
    refine (toTree_g _ _ _).mono ?_
    rintro e w4 ⟨rfl, hb⟩
    replace S := S.bl hb
    replace A0 := A0.bl hb
    replace OW0 := OW0.bl hb
    have z_4 := hb.size
    (try simp only [World.size_alloc, World.size_setCell, szDrew] at z_4)
    clear hb
    clear kA0_0 kA0_1
    have kA0_0 := A0.cell 0 rfl
    have kA0_1 := A0.cell 1 rfl
    go_wp2_with fail
    refine (iTouching_any n s k _ hc0' hb1'.1 hb1'.2).mono ?_
    rintro e w5 ⟨vG0, rfl, OG0, hb⟩
    replace S := S.bl hb
    replace A0 := A0.bl hb
    replace OW0 := OW0.bl hb
    have z_5 := hb.size
    (try simp only [World.size_alloc, World.size_setCell, szDrew] at z_5)
    obtain ⟨pG0, dG0, rfl⟩ := OG0.form
    have bG0 := OG0.ge
    (try simp only [World.size_alloc, World.size_setCell, szDrew] at bG0)
    clear hb
    clear kA0_0 kA0_1
    have kA0_0 := A0.cell 0 rfl
    have kA0_1 := A0.cell 1 rfl
    go_wp2_with fail
    refine (eqInt64S_g ((tl_len n s k)) OG0.rd OW0.rd).mono ?_
    rintro e w6 ⟨rfl, hb⟩
    replace S := S.bl hb
    replace A0 := A0.bl hb
    replace OW0 := OW0.bl hb
    replace OG0 := OG0.bl hb
    have z_6 := hb.size
    (try simp only [World.size_alloc, World.size_setCell, szDrew] at z_6)
    clear hb
    clear kA0_0 kA0_1
    have kA0_0 := A0.cell 0 rfl
    have kA0_1 := A0.cell 1 rfl
    go_wp2_with fail
    refine (markInt64S_g OG0 ((tl_len n s k))).mono ?_
    rintro e w7 ⟨rfl, M0, hb⟩
    replace S := S.grow hb (fun g e => by have := bG0 g e; omega)
    replace A0 := A0.grow hb (fun g e => by have := bG0 g e; omega)
    replace OW0 := OW0.grow hb (fun k g hk e => by have := bW0 k hk; have := bG0 g e; omega)
    have z_7 := hb.size
    (try simp only [World.size_alloc, World.size_setCell, szDrew] at z_7)
    clear hb
    clear kA0_0 kA0_1
    have kA0_0 := A0.cell 0 rfl
    have kA0_1 := A0.cell 1 rfl
    go_wp2_with fail
    refine (heldInt64S_g _ M0 ((tl_len n s k))).mono ?_
    rintro e w8 ⟨rfl, hb⟩
    replace S := S.bl hb
    replace A0 := A0.bl hb
    replace OW0 := OW0.bl hb
    replace M0 := M0.bl hb
    have z_8 := hb.size
    (try simp only [World.size_alloc, World.size_setCell, szDrew] at z_8)
    clear hb
    clear kA0_0 kA0_1
    have kA0_0 := A0.cell 0 rfl
    have kA0_1 := A0.cell 1 rfl
    go_wp2_with fail
    refine (toTree_g _ _ _).mono ?_
    rintro e w9 ⟨rfl, hb⟩
    replace S := S.bl hb
    replace A0 := A0.bl hb
    replace OW0 := OW0.bl hb
    replace M0 := M0.bl hb
    have z_9 := hb.size
    (try simp only [World.size_alloc, World.size_setCell, szDrew] at z_9)
    clear hb
    clear kA0_0 kA0_1
    have kA0_0 := A0.cell 0 rfl
    have kA0_1 := A0.cell 1 rfl
    go_wp2_with fail
    refine (iTouching_any n s k _ hc0' hb1'.1 hb1'.2).mono ?_
    rintro e w10 ⟨vH0, rfl, OH0, hb⟩
    replace S := S.bl hb
    replace A0 := A0.bl hb
    replace OW0 := OW0.bl hb
    replace M0 := M0.bl hb
    have z_10 := hb.size
    (try simp only [World.size_alloc, World.size_setCell, szDrew] at z_10)
    obtain ⟨pH0, dH0, rfl⟩ := OH0.form
    have bH0 := OH0.ge
    (try simp only [World.size_alloc, World.size_setCell, szDrew] at bH0)
    clear hb
    clear kA0_0 kA0_1
    have kA0_0 := A0.cell 0 rfl
    have kA0_1 := A0.cell 1 rfl
    go_wp2_with fail
    refine (eqInt64S_g ((tl_len n s k)) OH0.rd OW0.rd).mono ?_
    rintro e w11 ⟨rfl, hb⟩
    replace S := S.bl hb
    replace A0 := A0.bl hb
    replace OW0 := OW0.bl hb
    replace M0 := M0.bl hb
    replace OH0 := OH0.bl hb
    have z_11 := hb.size
    (try simp only [World.size_alloc, World.size_setCell, szDrew] at z_11)
    clear hb
    clear kA0_0 kA0_1
    have kA0_0 := A0.cell 0 rfl
    have kA0_1 := A0.cell 1 rfl
    go_wp2_with fail
    refine (heldInt64S_g _ M0 ((tl_len n s k))).mono ?_
    rintro e w12 ⟨rfl, hb⟩
    replace S := S.bl hb
    replace A0 := A0.bl hb
    replace OW0 := OW0.bl hb
    replace M0 := M0.bl hb
    replace OH0 := OH0.bl hb
    have z_12 := hb.size
    (try simp only [World.size_alloc, World.size_setCell, szDrew] at z_12)
    clear hb
    clear kA0_0 kA0_1
    have kA0_0 := A0.cell 0 rfl
    have kA0_1 := A0.cell 1 rfl
    clear kA0_0 kA0_1
    have kA0_0 := A0.cell 0 rfl
    have kA0_1 := A0.cell 1 rfl
    go_wp2
    go_ret
    exact ⟨rfl, S.below⟩
open Go.ChangeShapes Go.WideShapes Go.ChangeAt
open Go.ChangeMaps (open_string shut_string)

set_option maxRecDepth 100000 in
theorem lifted (os : Os) (started : os.Started) (H : Type) (enc : TypeId × Value → H) :
    ReturnsInHanded {} Try.checked os 8 .any (Rows.fnExactTouchingLeavesSpec.pre6 enc Try.prog Try.f8 Rows.fnExactTouchingLeavesRow.domain false) (Rows.fnExactTouchingLeavesSpec.post enc Try.prog Try.f8 false true false false) := by
  refine returnsInHanded_of_change (C := Try.checked) own started (by kernel_rfl) Try.func8
    (ChangeSpec.witness6 (enc := enc) (C := Try.checked) false ⟨#[], #[.agg #[.int .i64 0, .string ByteArray.empty], .int .i64 0], []⟩ 8 (by kernel_rfl) (by kernel_rfl) (by kernel_rfl) (by kernel_rfl)) ?_
  intro W base args ds gs before hval0 hW hcnd _
  have hval : ∀ (j : Nat) t v, Try.f8.params[j]? = some t → args[j]? = some v → Value.okWide Try.prog W .any base t v := hval0
  have hW' := hW
  obtain ⟨p, q, hA0, hV, rfl, hfz, hnd⟩ := hW
  have hA : DataW.TrodAll enc Try.prog W 0 (fun _ => true) true Try.f8.params.toList args.toList ds p := hA0
  rw [Try.params8] at hA hval
  obtain ⟨v0, vs0, d0, ds0, p0, q0, hargs, rfl, rfl, h0, r0⟩ := trodAll_cons hA
  obtain ⟨v1, vs1, d1, ds1, p1, q1, rfl, rfl, rfl, h1, r1⟩ := trodAll_cons r0
  obtain ⟨rfl, rfl, rfl⟩ := trodAll_nil r1
  obtain rfl : args = #[v0, v1] := by cases args; simp_all
  obtain ⟨rfl, rfl⟩ := trodVars_none hV
  have t0 : ∀ x ∈ p0, x.block < W.heap.size := fun x hx => hW'.lt x (by simp [hx])
  have k0 := hval 0 23 v0 rfl rfl
  have m0 := h0
  obtain ⟨n0', s0', rfl, n0'w, s0'w⟩ := open_Tree k0 h0
  have t1 : ∀ x ∈ p1, x.block < W.heap.size := fun x hx => hW'.lt x (by simp [hx])
  have k1 := hval 1 2 v1 rfl rfl
  have m1 := h1
  obtain ⟨x1', rfl, rfl, rfl, x1'w⟩ := open_int Try.underlying2 k1 h1
  refine (walk n0' s0' x1' W n0'w s0'w (bounds_i64 x1'w)).mono fun e W' ⟨he, hb⟩ => ?_
  subst he
  refine ⟨_, rfl, _, _, _, [], _, [], hW', trodAll_mk1 (shut_bool Try.underlying4 _), (trodAll_cons_mk (Below.trod laidOut (by kernel_rfl) (of_decide_eq_true (by kernel_rfl)) m0 hb t0) (trodAll_cons_mk (Below.trod laidOut (by kernel_rfl) (of_decide_eq_true (by kernel_rfl)) m1 hb t1) trodAll_mk0)), rfl, hb.frame _, fun h => by cases h⟩

theorem over : Rows.fnExactTouchingLeavesRow.holds Try.pinned (OpenSpec.ofChange Rows.fnExactTouchingLeavesSpec) :=
  OpenClaim.holds_of_wide 8 Try.f8 rfl rfl rfl rfl rfl rfl rfl ⟨rfl, rfl, rfl, rfl, rfl⟩ rfl rfl rfl rfl rfl (by kernel_rfl) Try.func8 (by kernel_rfl)
    (of_decide_eq_true (by kernel_rfl)) (by unfold Func.isWrapper; first | (rw [if_pos (by decide +kernel)]; kernel_rfl) | (rw [if_neg (by decide +kernel)]; exact ⟨rfl, rfl⟩))
    (fun os started H enc _ => lifted os started H enc)

theorem proved : Rows.FnExactTouchingLeavesSaid := over
#print axioms proved
end Go.Proofs.Ytnenogpagkepfaa.lawTouchingLeaves
