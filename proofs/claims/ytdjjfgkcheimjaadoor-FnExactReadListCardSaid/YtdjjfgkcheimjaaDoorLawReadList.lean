/- The card of ReadList: for every input the call returns true, and the input reads as it did, where the listed tables of the library read as the program's text lays them. -/
import Derived.Test.YtdjjfgkcheimjaaDoorDoorKit
import Derived.Test.YtdjjfgkcheimjaaDoorRdList
import Derived.Test.YtdjjfgkcheimjaaDoorLawKit
import Derived.Test.YtdjjfgkcheimjaaDoorLawIS
import Derived.Lay
set_option linter.unusedVariables false
set_option linter.unusedSimpArgs false
namespace Go.Proofs.YtdjjfgkcheimjaaDoor.lawReadList
open Go.RowKit Go.Proofs.YtdjjfgkcheimjaaDoor
set_option maxRecDepth 100000 in
set_option maxHeartbeats 4000000 in
theorem walk (s : ByteArray) (w : World) (hb0' : s.size ≤ maxLen) (hL : laidMetH Tryd.prog Rows.fnExactReadListRow.laid w) (hsh : w.ShapedOpen Tryd.prog) :
    Calls Tryd.prog 3 #[.string s] w fun e w' => e = .returned (.bool true) ∧ Below w.heap.size w w' := by
  have hM := max_tab hsh
  have hT : PowT w := pow_tab hL (by kernel_rfl) (by kernel_rfl)
  have hE : ErrT w := err_tab hL (by kernel_rfl) (by kernel_rfl) (by kernel_rfl)
  clear hL hsh
  rcases Nat.lt_or_ge 1048576 s.size with z0 | z0
  · have S := Since.refl w
    go_enter Tryd.func3, Tryd.ntmps3
    go_wp2
    go_ret
    exact ⟨rfl, S.below⟩
  · have hn0 : s.size ≤ 1048576 := z0
    have S := Since.refl w
    go_enter Tryd.func3, Tryd.ntmps3
    go_wp2_with fail
    refine (specReadList_any s _ hn0).mono ?_
    rintro e w1 ⟨vW0, rfl, OW0, hb⟩
    replace S := S.bl hb
    have z_1 := hb.size
    (try simp only [World.size_alloc, World.size_setCell, szDrew] at z_1)
    obtain ⟨pW0, dW0, rfl⟩ := OW0.form
    have bW0 := OW0.ge
    (try simp only [World.size_alloc, World.size_setCell, szDrew] at bW0)
    clear hb
    go_wp2_with fail
    refine (implReadList_any s _ hn0 (hM.bl S.below) (hT.bl S.below) (hE.bl S.below)).mono ?_
    rintro e w2 ⟨vG0, rfl, OG0, hb⟩
    replace S := S.bl hb
    replace OW0 := OW0.bl hb
    have z_2 := hb.size
    (try simp only [World.size_alloc, World.size_setCell, szDrew] at z_2)
    obtain ⟨pG0, dG0, rfl⟩ := OG0.form
    have bG0 := OG0.ge
    (try simp only [World.size_alloc, World.size_setCell, szDrew] at bG0)
    clear hb
    go_wp2_with fail
    refine (eqInt64S_g (rlL_len) OG0.rd OW0.rd).mono ?_
    rintro e w3 ⟨rfl, hb⟩
    replace S := S.bl hb
    replace OW0 := OW0.bl hb
    replace OG0 := OG0.bl hb
    have z_3 := hb.size
    (try simp only [World.size_alloc, World.size_setCell, szDrew] at z_3)
    clear hb
    go_wp2_with fail
    refine (markInt64S_g OG0 (rlL_len)).mono ?_
    rintro e w4 ⟨rfl, M0, hb⟩
    replace S := S.grow hb (fun g e => by have := bG0 g e; omega)
    replace OW0 := OW0.grow hb (fun k g hk e => by have := bW0 k hk; have := bG0 g e; omega)
    have z_4 := hb.size
    (try simp only [World.size_alloc, World.size_setCell, szDrew] at z_4)
    clear hb
    go_wp2_with fail
    refine (heldInt64S_g _ M0 (rlL_len)).mono ?_
    rintro e w5 ⟨rfl, hb⟩
    replace S := S.bl hb
    replace OW0 := OW0.bl hb
    replace M0 := M0.bl hb
    have z_5 := hb.size
    (try simp only [World.size_alloc, World.size_setCell, szDrew] at z_5)
    clear hb
    go_wp2_with fail
    refine (implReadList_any s _ hn0 (hM.bl S.below) (hT.bl S.below) (hE.bl S.below)).mono ?_
    rintro e w6 ⟨vH0, rfl, OH0, hb⟩
    replace S := S.bl hb
    replace OW0 := OW0.bl hb
    replace M0 := M0.bl hb
    have z_6 := hb.size
    (try simp only [World.size_alloc, World.size_setCell, szDrew] at z_6)
    obtain ⟨pH0, dH0, rfl⟩ := OH0.form
    have bH0 := OH0.ge
    (try simp only [World.size_alloc, World.size_setCell, szDrew] at bH0)
    clear hb
    go_wp2_with fail
    refine (eqInt64S_g (rlL_len) OH0.rd OW0.rd).mono ?_
    rintro e w7 ⟨rfl, hb⟩
    replace S := S.bl hb
    replace OW0 := OW0.bl hb
    replace M0 := M0.bl hb
    replace OH0 := OH0.bl hb
    have z_7 := hb.size
    (try simp only [World.size_alloc, World.size_setCell, szDrew] at z_7)
    clear hb
    go_wp2_with fail
    refine (heldInt64S_g _ M0 (rlL_len)).mono ?_
    rintro e w8 ⟨rfl, hb⟩
    replace S := S.bl hb
    replace OW0 := OW0.bl hb
    replace M0 := M0.bl hb
    replace OH0 := OH0.bl hb
    have z_8 := hb.size
    (try simp only [World.size_alloc, World.size_setCell, szDrew] at z_8)
    clear hb
    go_wp2
    go_ret
    exact ⟨rfl, S.below⟩
open Go.ChangeShapes Go.WideShapes Go.ChangeAt Go.WideMaps Go.WideElems
open Go.ChangeMaps (open_string shut_string)
theorem door_met (os : Os) (args : Array Value) : laidMetH Tryd.prog Rows.fnExactReadListRow.laid ((World.laidAll Tryd.prog os Rows.fnExactReadListRow.laid).forCall (fun _ _ => 0) ⟨#[], args, []⟩).memory := by
  rw [MakeChecks.laidMetH_plain _ _ _ (by kernel_rfl)]
  exact laidMet_laidAll _ (by kernel_rfl) (by kernel_rfl)
set_option maxRecDepth 100000 in
theorem lifted (os : Os) (started : os.Started) (H : Type) (enc : TypeId × Value → H) :
    ReturnsInHanded {} Tryd.checked os 3 .any (fun w args => (Rows.fnExactReadListSpec.pre enc Tryd.prog Tryd.f3 Rows.fnExactReadListRow.domain false w args ∧ laidMetH Tryd.prog Rows.fnExactReadListRow.laid w) ∧ sizedMet enc Tryd.prog Tryd.f3 (OpenSpec.ofChange Rows.fnExactReadListSpec) false w args)
      (Rows.fnExactReadListSpec.post enc Tryd.prog Tryd.f3 false true false false) := by
  refine returnsInHanded_both (C := Tryd.checked) (X := fun w _ => laidMetH Tryd.prog Rows.fnExactReadListRow.laid w) (fun _ _ _ hh h => h.of_heap hh) own started (by kernel_rfl) Tryd.func3
    (ChangeSpec.witness_shaped (enc := enc) (C := Tryd.checked) (os := os) (X := fun w _ => laidMetH Tryd.prog Rows.fnExactReadListRow.laid w) false (World.laidAll Tryd.prog os Rows.fnExactReadListRow.laid) #[.string ByteArray.empty] 8 (World.laidAll_os _ _ _) (World.shaped_of_ZipB (by kernel_rfl) (by kernel_rfl)) (by kernel_rfl) (by kernel_rfl) (by kernel_rfl) (door_met os _)) ?_
  intro W base args ds gs before hval0 hW _ _ hL hsh _
  have hval : ∀ (j : Nat) t v, Tryd.f3.params[j]? = some t → args[j]? = some v → Value.okWide Tryd.prog W .any base t v := hval0
  have hW' := hW
  obtain ⟨p, q, hA0, hV, rfl, hfz, hnd⟩ := hW
  have hA : DataW.TrodAll enc Tryd.prog W 0 (fun _ => true) true Tryd.f3.params.toList args.toList ds p := hA0
  rw [Tryd.params3] at hA hval
  obtain ⟨v0, vs0, d0, ds0, p0, q0, hargs, rfl, rfl, h0, r0⟩ := trodAll_cons hA
  obtain ⟨rfl, rfl, rfl⟩ := trodAll_nil r0
  obtain rfl : args = #[v0] := by cases args; simp_all
  obtain ⟨rfl, rfl⟩ := trodVars_none hV
  have t0 : ∀ x ∈ p0, x.block < W.heap.size := fun x hx => hW'.lt x (by simp [hx])
  have k0 := hval 0 9 v0 rfl rfl
  have m0 := h0
  obtain ⟨s0, rfl, rfl, rfl, s0w⟩ := open_string Tryd.underlying9 k0 h0
  refine (walk s0 W s0w hL hsh).mono fun e W' ⟨he, hb⟩ => ?_
  subst he
  refine ⟨_, rfl, _, _, _, [], _, [], hW', trodAll_mk1 (shut_bool Tryd.underlying4 _), (trodAll_cons_mk (Below.trod laidOut (by kernel_rfl) (of_decide_eq_true (by kernel_rfl)) m0 hb t0) trodAll_mk0), rfl, hb.frame _, fun h => by cases h⟩

theorem over : Rows.FnExactReadListSaid :=
  OpenClaim.holds_of_wide 3 Tryd.f3 rfl rfl rfl rfl rfl rfl rfl ⟨rfl, rfl, rfl, rfl, rfl⟩ rfl rfl rfl rfl rfl (by kernel_rfl) Tryd.func3 (by kernel_rfl)
    (of_decide_eq_true (by kernel_rfl)) (by unfold Func.isWrapper; first | (rw [if_pos (by decide +kernel)]; kernel_rfl) | (rw [if_neg (by decide +kernel)]; exact ⟨rfl, rfl⟩))
    (fun os started H enc _ => lifted os started H enc)
theorem proved : Rows.FnExactReadListCardSaid :=
  Claim7.holds_tied_plain_at .later [] [.data, .data, .data, .data, .sentinel, .sentinel, .pinned] true (true, "1cd386d3da6075c0dca19b1ba8f908361e0b534a46c9bf5e315f5dfc954a71f5") true
    over (fun _ h => by cases h) (by kernel_rfl) (fun _ h => by cases h) fnExactReadList_row_tie rfl ⟨rfl, rfl⟩ (by kernel_rfl) rfl
    (fun f fn hf hfn => by
      obtain rfl : f = 3 := Option.some.inj ((show Tryd.prog.funcNamed "loop.example/g01165/laws.FnExactReadList" = some 3 by kernel_rfl).symm.trans hf) |>.symm
      obtain rfl : fn = Tryd.f3 := (Option.some.inj (Tryd.func3.symm.trans hfn)).symm
      exact ⟨by kernel_rfl, fun j t ht => by
        rw [Tryd.params3] at ht
        have hm : t ∈ [9] := by simpa using Array.mem_of_getElem? ht
        have hall : ([9].all fun u => !Tryd.prog.wantsStandIn u) = true := by kernel_rfl
        exact (show Tryd.prog.wantsStandIn t = false by simpa using List.all_eq_true.1 hall t hm)⟩)
    (by kernel_rfl)

end Go.Proofs.YtdjjfgkcheimjaaDoor.lawReadList
