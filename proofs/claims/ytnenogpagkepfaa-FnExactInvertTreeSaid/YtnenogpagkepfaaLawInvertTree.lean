/- The law of InvertTree: for every input the call returns true, and the inputs read as they did. -/
import Derived.Test.YtnenogpagkepfaaTreeP
import Derived.Test.YtnenogpagkepfaaLawTree
import Derived.Test.YtnenogpagkepfaaOpen2
set_option linter.unusedVariables false
set_option linter.unusedSimpArgs false
namespace Go.Proofs.Ytnenogpagkepfaa.lawInvertTree
open Go.RowKit Go.Proofs.Ytnenogpagkepfaa
set_option maxRecDepth 100000 in
set_option maxHeartbeats 4000000 in
theorem walk (n : Int) (s : ByteArray) (w : World) (hb0' : -9223372036854775808 ≤ n ∧ n ≤ 9223372036854775807) (hc0' : s.size ≤ maxLen) :
    Calls Try.prog 12 #[.agg #[.int .i64 n, .string s]] w fun e w' => e = .returned (.bool true) ∧ Below w.heap.size w w' := by
  rcases Int.lt_or_le (1048576 - (s.size : Int)) 0 with z0 | z0
  · have S := Since.refl w
    replace S := S.bl (bl_alloc w (.cells #[.int .i64 n, .string s] 23))
    have A0 := Blk.new w #[.int .i64 n, .string s] 23
    go_enter Try.func12, Try.ntmps12
    have kA0_0 := A0.cell 0 rfl
    have kA0_1 := A0.cell 1 rfl
    go_wp2_with fail
    refine (szTree_any _ _ _ _ hc0' (by omega) (by omega)).mono ?_
    rw [if_pos (by omega)]
    rintro e w1 ⟨rfl, hb⟩
    replace S := S.bl hb
    replace A0 := A0.bl hb
    have z_1 := hb.size
    (try simp only [World.size_alloc, World.size_setCell, szDrew] at z_1)
    clear hb
    clear kA0_0 kA0_1
    have kA0_0 := A0.cell 0 rfl
    have kA0_1 := A0.cell 1 rfl
    go_wp2
    go_ret
    exact ⟨rfl, S.below⟩
  · have hn0 : s.size ≤ 1048576 := by omega
    have zl0 : 1048576 - (s.size : Int) ≤ 1048576 := by omega
    have S := Since.refl w
    replace S := S.bl (bl_alloc w (.cells #[.int .i64 n, .string s] 23))
    have A0 := Blk.new w #[.int .i64 n, .string s] 23
    go_enter Try.func12, Try.ntmps12
    have kA0_0 := A0.cell 0 rfl
    have kA0_1 := A0.cell 1 rfl
    go_wp2_with fail
    refine (szTree_any _ _ _ _ hc0' (by omega) (by omega)).mono ?_
    rw [if_neg (by omega)]
    rintro e w1 ⟨rfl, hb⟩
    replace S := S.bl hb
    replace A0 := A0.bl hb
    have z_1 := hb.size
    (try simp only [World.size_alloc, World.size_setCell, szDrew] at z_1)
    clear hb
    clear kA0_0 kA0_1
    have kA0_0 := A0.cell 0 rfl
    have kA0_1 := A0.cell 1 rfl
    go_wp2_with fail
    refine (toTree_g _ _ _).mono ?_
    rintro e w2 ⟨rfl, hb⟩
    replace S := S.bl hb
    replace A0 := A0.bl hb
    have z_2 := hb.size
    (try simp only [World.size_alloc, World.size_setCell, szDrew] at z_2)
    clear hb
    clear kA0_0 kA0_1
    have kA0_0 := A0.cell 0 rfl
    have kA0_1 := A0.cell 1 rfl
    go_wp2_with fail
    refine (sInvertTree_any n s _ hc0').mono ?_
    rintro e w3 ⟨rfl, hb⟩
    replace S := S.bl hb
    replace A0 := A0.bl hb
    have z_3 := hb.size
    (try simp only [World.size_alloc, World.size_setCell, szDrew] at z_3)
    clear hb
    clear kA0_0 kA0_1
    have kA0_0 := A0.cell 0 rfl
    have kA0_1 := A0.cell 1 rfl
    replace S := S.bl (bl_alloc w3 (.cells #[.int .i64 (ivN n s), .string (ivS n s)] 26))
    replace A0 := A0.bl (bl_alloc w3 (.cells #[.int .i64 (ivN n s), .string (ivS n s)] 26))
    have B1 := Blk.new w3 #[.int .i64 (ivN n s), .string (ivS n s)] 26
    (try simp only [World.size_alloc] at B1)
    clear kA0_0 kA0_1
    have kA0_0 := A0.cell 0 rfl
    have kA0_1 := A0.cell 1 rfl
    have kB1_0 := B1.cell 0 rfl
    have kB1_1 := B1.cell 1 rfl
    go_wp2_with fail
    refine (toTree_g _ _ _).mono ?_
    rintro e w4 ⟨rfl, hb⟩
    replace S := S.bl hb
    replace A0 := A0.bl hb
    replace B1 := B1.bl hb
    have z_4 := hb.size
    (try simp only [World.size_alloc, World.size_setCell, szDrew] at z_4)
    clear hb
    clear kA0_0 kA0_1 kB1_0 kB1_1
    have kA0_0 := A0.cell 0 rfl
    have kA0_1 := A0.cell 1 rfl
    have kB1_0 := B1.cell 0 rfl
    have kB1_1 := B1.cell 1 rfl
    go_wp2_with fail
    refine (invertTree_any n s _ hc0').mono ?_
    rintro e w5 ⟨rfl, hb⟩
    replace S := S.bl hb
    replace A0 := A0.bl hb
    replace B1 := B1.bl hb
    have z_5 := hb.size
    (try simp only [World.size_alloc, World.size_setCell, szDrew] at z_5)
    clear hb
    clear kA0_0 kA0_1 kB1_0 kB1_1
    have kA0_0 := A0.cell 0 rfl
    have kA0_1 := A0.cell 1 rfl
    have kB1_0 := B1.cell 0 rfl
    have kB1_1 := B1.cell 1 rfl
    replace S := S.bl (bl_alloc w5 (.cells #[.int .i64 (ivN n s), .string (ivS n s)] 26))
    replace A0 := A0.bl (bl_alloc w5 (.cells #[.int .i64 (ivN n s), .string (ivS n s)] 26))
    replace B1 := B1.bl (bl_alloc w5 (.cells #[.int .i64 (ivN n s), .string (ivS n s)] 26))
    have B2 := Blk.new w5 #[.int .i64 (ivN n s), .string (ivS n s)] 26
    (try simp only [World.size_alloc] at B2)
    clear kA0_0 kA0_1 kB1_0 kB1_1
    have kA0_0 := A0.cell 0 rfl
    have kA0_1 := A0.cell 1 rfl
    have kB1_0 := B1.cell 0 rfl
    have kB1_1 := B1.cell 1 rfl
    have kB2_0 := B2.cell 0 rfl
    have kB2_1 := B2.cell 1 rfl
    go_wp2_with fail
    refine (eqTree_same _ _ _).mono ?_
    rintro e w6 ⟨rfl, hb⟩
    replace S := S.bl hb
    replace A0 := A0.bl hb
    replace B1 := B1.bl hb
    replace B2 := B2.bl hb
    have z_6 := hb.size
    (try simp only [World.size_alloc, World.size_setCell, szDrew] at z_6)
    clear hb
    clear kA0_0 kA0_1 kB1_0 kB1_1 kB2_0 kB2_1
    have kA0_0 := A0.cell 0 rfl
    have kA0_1 := A0.cell 1 rfl
    have kB1_0 := B1.cell 0 rfl
    have kB1_1 := B1.cell 1 rfl
    have kB2_0 := B2.cell 0 rfl
    have kB2_1 := B2.cell 1 rfl
    clear kA0_0 kA0_1 kB1_0 kB1_1 kB2_0 kB2_1
    have kA0_0 := A0.cell 0 rfl
    have kA0_1 := A0.cell 1 rfl
    have kB1_0 := B1.cell 0 rfl
    have kB1_1 := B1.cell 1 rfl
    have kB2_0 := B2.cell 0 rfl
    have kB2_1 := B2.cell 1 rfl
    go_wp2
    go_ret
    exact ⟨rfl, S.below⟩
open Go.ChangeShapes Go.WideShapes Go.ChangeAt
open Go.ChangeMaps (open_string shut_string)

set_option maxRecDepth 100000 in
theorem lifted (os : Os) (started : os.Started) (H : Type) (enc : TypeId × Value → H) :
    ReturnsInHanded {} Try.checked os 12 .any (Rows.fnExactInvertTreeSpec.pre6 enc Try.prog Try.f12 Rows.fnExactInvertTreeRow.domain false) (Rows.fnExactInvertTreeSpec.post enc Try.prog Try.f12 false true false false) := by
  refine returnsInHanded_of_change (C := Try.checked) own started (by kernel_rfl) Try.func12
    (ChangeSpec.witness6 (enc := enc) (C := Try.checked) false ⟨#[], #[.agg #[.int .i64 0, .string ByteArray.empty]], []⟩ 8 (by kernel_rfl) (by kernel_rfl) (by kernel_rfl) (by kernel_rfl)) ?_
  intro W base args ds gs before hval0 hW hcnd _
  have hval : ∀ (j : Nat) t v, Try.f12.params[j]? = some t → args[j]? = some v → Value.okWide Try.prog W .any base t v := hval0
  have hW' := hW
  obtain ⟨p, q, hA0, hV, rfl, hfz, hnd⟩ := hW
  have hA : DataW.TrodAll enc Try.prog W 0 (fun _ => true) true Try.f12.params.toList args.toList ds p := hA0
  rw [Try.params12] at hA hval
  obtain ⟨v0, vs0, d0, ds0, p0, q0, hargs, rfl, rfl, h0, r0⟩ := trodAll_cons hA
  obtain ⟨rfl, rfl, rfl⟩ := trodAll_nil r0
  obtain rfl : args = #[v0] := by cases args; simp_all
  obtain ⟨rfl, rfl⟩ := trodVars_none hV
  have t0 : ∀ x ∈ p0, x.block < W.heap.size := fun x hx => hW'.lt x (by simp [hx])
  have k0 := hval 0 23 v0 rfl rfl
  have m0 := h0
  obtain ⟨n0', s0', rfl, n0'w, s0'w⟩ := open_Tree k0 h0
  refine (walk n0' s0' W n0'w s0'w).mono fun e W' ⟨he, hb⟩ => ?_
  subst he
  refine ⟨_, rfl, _, _, _, [], _, [], hW', trodAll_mk1 (shut_bool Try.underlying4 _), (trodAll_cons_mk (Below.trod laidOut (by kernel_rfl) (of_decide_eq_true (by kernel_rfl)) m0 hb t0) trodAll_mk0), rfl, hb.frame _, fun h => by cases h⟩

theorem over : Rows.fnExactInvertTreeRow.holds Try.pinned (OpenSpec.ofChange Rows.fnExactInvertTreeSpec) :=
  OpenClaim.holds_of_wide 12 Try.f12 rfl rfl rfl rfl rfl rfl rfl ⟨rfl, rfl, rfl, rfl, rfl⟩ rfl rfl rfl rfl rfl (by kernel_rfl) Try.func12 (by kernel_rfl)
    (of_decide_eq_true (by kernel_rfl)) (by unfold Func.isWrapper; first | (rw [if_pos (by decide +kernel)]; kernel_rfl) | (rw [if_neg (by decide +kernel)]; exact ⟨rfl, rfl⟩))
    (fun os started H enc _ => lifted os started H enc)

theorem proved : Rows.FnExactInvertTreeSaid := over
#print axioms proved
end Go.Proofs.Ytnenogpagkepfaa.lawInvertTree
