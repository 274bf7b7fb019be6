/- The law of CrossElement: for every input the call returns true, and the inputs read as they did. -/
import Derived.Test.YtheakjbbfdcbaaaElemCr
import Derived.Test.YtheakjbbfdcbaaaLawElem
import Derived.Test.YtheakjbbfdcbaaaOpen2
set_option linter.unusedVariables false
set_option linter.unusedSimpArgs false
namespace Go.Proofs.Ytheakjbbfdcbaaa.lawCrossElement
open Go.RowKit Go.Proofs.Ytheakjbbfdcbaaa
set_option maxRecDepth 100000 in
set_option maxHeartbeats 4000000 in
theorem walk (k : Int) (w : World) (hb0' : -9223372036854775808 ≤ k ∧ k ≤ 9223372036854775807) :
    Calls Try.prog 7 #[.int .i64 k] w fun e w' => e = .returned (.bool true) ∧ Below w.heap.size w w' := by
  have S := Since.refl w
  go_enter Try.func7, Try.ntmps7
  go_wp2_with fail
  refine (sCross_any k _).mono ?_
  rintro e w1 ⟨vW0, rfl, OW0, hb⟩
  replace S := S.bl hb
  have z_1 := hb.size
  (try simp only [World.size_alloc, World.size_setCell, szDrew] at z_1)
  obtain ⟨pW0, dW0, rfl⟩ := OW0.form
  have bW0 := OW0.ge
  (try simp only [World.size_alloc, World.size_setCell, szDrew] at bW0)
  clear hb
  replace S := S.bl (bl_alloc w1 (.cells #[.slice pW0 (crR k).length dW0] 28))
  replace OW0 := OW0.bl (bl_alloc w1 (.cells #[.slice pW0 (crR k).length dW0] 28))
  have B1 := Blk.new w1 #[.slice pW0 (crR k).length dW0] 28
  (try simp only [World.size_alloc] at B1)
  have kB1_0 := B1.cell 0 rfl
  go_wp2_with fail
  refine (cross_any k _).mono ?_
  rintro e w2 ⟨vG0, rfl, OG0, hb⟩
  replace S := S.bl hb
  replace OW0 := OW0.bl hb
  replace B1 := B1.bl hb
  have z_2 := hb.size
  (try simp only [World.size_alloc, World.size_setCell, szDrew] at z_2)
  obtain ⟨pG0, dG0, rfl⟩ := OG0.form
  have bG0 := OG0.ge
  (try simp only [World.size_alloc, World.size_setCell, szDrew] at bG0)
  clear hb
  clear kB1_0
  have kB1_0 := B1.cell 0 rfl
  replace S := S.bl (bl_alloc w2 (.cells #[.slice pG0 (crR k).length dG0] 28))
  replace OW0 := OW0.bl (bl_alloc w2 (.cells #[.slice pG0 (crR k).length dG0] 28))
  replace B1 := B1.bl (bl_alloc w2 (.cells #[.slice pG0 (crR k).length dG0] 28))
  replace OG0 := OG0.bl (bl_alloc w2 (.cells #[.slice pG0 (crR k).length dG0] 28))
  have B2 := Blk.new w2 #[.slice pG0 (crR k).length dG0] 28
  (try simp only [World.size_alloc] at B2)
  clear kB1_0
  have kB1_0 := B1.cell 0 rfl
  have kB2_0 := B2.cell 0 rfl
  go_wp2_with fail
  refine (eqElement_same _ _ _ _ (crR k) _ (crR_len k) OG0.rd OW0.rd).mono ?_
  rintro e w3 ⟨rfl, hb⟩
  replace S := S.bl hb
  replace OW0 := OW0.bl hb
  replace B1 := B1.bl hb
  replace OG0 := OG0.bl hb
  replace B2 := B2.bl hb
  have z_3 := hb.size
  (try simp only [World.size_alloc, World.size_setCell, szDrew] at z_3)
  clear hb
  clear kB1_0 kB2_0
  have kB1_0 := B1.cell 0 rfl
  have kB2_0 := B2.cell 0 rfl
  go_wp2_with fail
  refine (markElement_g OG0 (crR_len k)).mono ?_
  rintro e w4 ⟨rfl, M0, hb⟩
  replace S := S.grow hb (fun g e => by have := bG0 g e; omega)
  replace OW0 := OW0.grow hb (fun k g hk e => by have := bW0 k hk; have := bG0 g e; omega)
  replace B1 := B1.grow hb (fun g e => by first | (have := bG0 g e; omega))
  replace B2 := B2.grow hb (fun g e => by first | (have := bG0 g e; omega))
  have z_4 := hb.size
  (try simp only [World.size_alloc, World.size_setCell, szDrew] at z_4)
  clear hb
  clear kB1_0 kB2_0
  have kB1_0 := B1.cell 0 rfl
  have kB2_0 := B2.cell 0 rfl
  go_wp2_with fail
  refine (heldElement_g _ M0 (crR_len k)).mono ?_
  rintro e w5 ⟨rfl, hb⟩
  replace S := S.bl hb
  replace OW0 := OW0.bl hb
  replace B1 := B1.bl hb
  replace B2 := B2.bl hb
  replace M0 := M0.bl hb
  have z_5 := hb.size
  (try simp only [World.size_alloc, World.size_setCell, szDrew] at z_5)
  clear hb
  clear kB1_0 kB2_0
  have kB1_0 := B1.cell 0 rfl
  have kB2_0 := B2.cell 0 rfl
  go_wp2_with fail
  refine (cross_any k _).mono ?_
  rintro e w6 ⟨vH0, rfl, OH0, hb⟩
  replace S := S.bl hb
  replace OW0 := OW0.bl hb
  replace B1 := B1.bl hb
  replace B2 := B2.bl hb
  replace M0 := M0.bl hb
  have z_6 := hb.size
  (try simp only [World.size_alloc, World.size_setCell, szDrew] at z_6)
  obtain ⟨pH0, dH0, rfl⟩ := OH0.form
  have bH0 := OH0.ge
  (try simp only [World.size_alloc, World.size_setCell, szDrew] at bH0)
  clear hb
  clear kB1_0 kB2_0
  have kB1_0 := B1.cell 0 rfl
  have kB2_0 := B2.cell 0 rfl
  replace S := S.bl (bl_alloc w6 (.cells #[.slice pH0 (crR k).length dH0] 28))
  replace OW0 := OW0.bl (bl_alloc w6 (.cells #[.slice pH0 (crR k).length dH0] 28))
  replace B1 := B1.bl (bl_alloc w6 (.cells #[.slice pH0 (crR k).length dH0] 28))
  replace B2 := B2.bl (bl_alloc w6 (.cells #[.slice pH0 (crR k).length dH0] 28))
  replace M0 := M0.bl (bl_alloc w6 (.cells #[.slice pH0 (crR k).length dH0] 28))
  replace OH0 := OH0.bl (bl_alloc w6 (.cells #[.slice pH0 (crR k).length dH0] 28))
  have B3 := Blk.new w6 #[.slice pH0 (crR k).length dH0] 28
  (try simp only [World.size_alloc] at B3)
  clear kB1_0 kB2_0
  have kB1_0 := B1.cell 0 rfl
  have kB2_0 := B2.cell 0 rfl
  have kB3_0 := B3.cell 0 rfl
  go_wp2_with fail
  refine (eqElement_same _ _ _ _ (crR k) _ (crR_len k) OH0.rd OW0.rd).mono ?_
  rintro e w7 ⟨rfl, hb⟩
  replace S := S.bl hb
  replace OW0 := OW0.bl hb
  replace B1 := B1.bl hb
  replace B2 := B2.bl hb
  replace M0 := M0.bl hb
  replace OH0 := OH0.bl hb
  replace B3 := B3.bl hb
  have z_7 := hb.size
  (try simp only [World.size_alloc, World.size_setCell, szDrew] at z_7)
  clear hb
  clear kB1_0 kB2_0 kB3_0
  have kB1_0 := B1.cell 0 rfl
  have kB2_0 := B2.cell 0 rfl
  have kB3_0 := B3.cell 0 rfl
  go_wp2_with fail
  refine (heldElement_g _ M0 (crR_len k)).mono ?_
  rintro e w8 ⟨rfl, hb⟩
  replace S := S.bl hb
  replace OW0 := OW0.bl hb
  replace B1 := B1.bl hb
  replace B2 := B2.bl hb
  replace M0 := M0.bl hb
  replace OH0 := OH0.bl hb
  replace B3 := B3.bl hb
  have z_8 := hb.size
  (try simp only [World.size_alloc, World.size_setCell, szDrew] at z_8)
  clear hb
  clear kB1_0 kB2_0 kB3_0
  have kB1_0 := B1.cell 0 rfl
  have kB2_0 := B2.cell 0 rfl
  have kB3_0 := B3.cell 0 rfl
  clear kB1_0 kB2_0 kB3_0
  have kB1_0 := B1.cell 0 rfl
  have kB2_0 := B2.cell 0 rfl
  have kB3_0 := B3.cell 0 rfl
  go_wp2
  go_ret
  exact ⟨rfl, S.below⟩
open Go.ChangeShapes Go.WideShapes Go.ChangeAt
open Go.ChangeMaps (open_string shut_string)

set_option maxRecDepth 100000 in
theorem lifted (os : Os) (started : os.Started) (H : Type) (enc : TypeId × Value → H) :
    ReturnsInHanded {} Try.checked os 7 .any (Rows.fnExactCrossElementSpec.pre6 enc Try.prog Try.f7 Rows.fnExactCrossElementRow.domain false) (Rows.fnExactCrossElementSpec.post enc Try.prog Try.f7 false true false false) := by
  refine returnsInHanded_of_change (C := Try.checked) own started (by kernel_rfl) Try.func7
    (ChangeSpec.witness6 (enc := enc) (C := Try.checked) false ⟨#[], #[.int .i64 0], []⟩ 8 (by kernel_rfl) (by kernel_rfl) (by kernel_rfl) (by kernel_rfl)) ?_
  intro W base args ds gs before hval0 hW hcnd _
  have hval : ∀ (j : Nat) t v, Try.f7.params[j]? = some t → args[j]? = some v → Value.okWide Try.prog W .any base t v := hval0
  have hW' := hW
  obtain ⟨p, q, hA0, hV, rfl, hfz, hnd⟩ := hW
  have hA : DataW.TrodAll enc Try.prog W 0 (fun _ => true) true Try.f7.params.toList args.toList ds p := hA0
  rw [Try.params7] at hA hval
  obtain ⟨v0, vs0, d0, ds0, p0, q0, hargs, rfl, rfl, h0, r0⟩ := trodAll_cons hA
  obtain ⟨rfl, rfl, rfl⟩ := trodAll_nil r0
  obtain rfl : args = #[v0] := by cases args; simp_all
  obtain ⟨rfl, rfl⟩ := trodVars_none hV
  have t0 : ∀ x ∈ p0, x.block < W.heap.size := fun x hx => hW'.lt x (by simp [hx])
  have k0 := hval 0 2 v0 rfl rfl
  have m0 := h0
  obtain ⟨x0', rfl, rfl, rfl, x0'w⟩ := open_int Try.underlying2 k0 h0
  refine (walk x0' W (bounds_i64 x0'w)).mono fun e W' ⟨he, hb⟩ => ?_
  subst he
  refine ⟨_, rfl, _, _, _, [], _, [], hW', trodAll_mk1 (shut_bool Try.underlying4 _), (trodAll_cons_mk (Below.trod laidOut (by kernel_rfl) (of_decide_eq_true (by kernel_rfl)) m0 hb t0) trodAll_mk0), rfl, hb.frame _, fun h => by cases h⟩

theorem over : Rows.fnExactCrossElementRow.holds Try.pinned (OpenSpec.ofChange Rows.fnExactCrossElementSpec) :=
  OpenClaim.holds_of_wide 7 Try.f7 rfl rfl rfl rfl rfl rfl rfl ⟨rfl, rfl, rfl, rfl, rfl⟩ rfl rfl rfl rfl rfl (by kernel_rfl) Try.func7 (by kernel_rfl)
    (of_decide_eq_true (by kernel_rfl)) (by unfold Func.isWrapper; first | (rw [if_pos (by decide +kernel)]; kernel_rfl) | (rw [if_neg (by decide +kernel)]; exact ⟨rfl, rfl⟩))
    (fun os started H enc _ => lifted os started H enc)

theorem proved : Rows.FnExactCrossElementSaid := over
#print axioms proved
end Go.Proofs.Ytheakjbbfdcbaaa.lawCrossElement
