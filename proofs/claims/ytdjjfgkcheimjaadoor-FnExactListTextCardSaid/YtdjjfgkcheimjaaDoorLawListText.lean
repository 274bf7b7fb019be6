/- The card of ListText: for every input the call returns true, and the input reads as it did, where the listed tables of the library read as the program's text lays them. -/
import Derived.Test.YtdjjfgkcheimjaaDoorDoorKit
import Derived.Test.YtdjjfgkcheimjaaDoorLiTxt
import Derived.Test.YtdjjfgkcheimjaaDoorOpen2
import Derived.Lay
set_option linter.unusedVariables false
set_option linter.unusedSimpArgs false
namespace Go.Proofs.YtdjjfgkcheimjaaDoor.lawListText
open Go.RowKit Go.Proofs.YtdjjfgkcheimjaaDoor
set_option maxHeartbeats 4000000 in
theorem walk (p : Option Addr) (c : Nat) (l : List Int) (w : World) (hn' : l.length ≤ maxLen) (hs' : ∀ s ∈ l, -9223372036854775808 ≤ s ∧ s ≤ 9223372036854775807) (hr : Rd w p l.length (intAt l)) (hL : laidMetH Tryd.prog Rows.fnExactListTextRow.laid w) (hsh : w.ShapedOpen Tryd.prog) :
    Calls Tryd.prog 6 #[.slice p l.length c] w fun e w' => e = .returned (.bool true) ∧ Below w.heap.size w w' := by
  clear hs'
  unfold maxLen at hn'
  by_cases h : 1048576 < l.length
  · clear hL hsh hr
    go_enter Tryd.func6, Tryd.ntmps6
    go_wp2
    go_ret
    exact ⟨rfl, Below.refl _ _⟩
  · have hT : PowT w := pow_tab hL (by kernel_rfl) (by kernel_rfl)
    have hn : l.length ≤ 1048576 := by omega
    have c0 := fun q d w' h => specListText_any q d l w' hn h
    have c1 := fun q d w' h hb => implListText_any q d l w' hn h (hT.bl (w' := w') hb)
    generalize liS l = T at *
    generalize liOk l = b at *
    have S := Since.refl w
    clear hT hL hsh h
    have C0 := Lib.hid c0; clear c0
    have C1 := Lib.hid c1; clear c1
    go_enter Tryd.func6, Tryd.ntmps6
    go_wp2_with fail
    refine (toInt64S_any p c l _ hn hr).mono ?_
    rintro e w1 ⟨g1, rfl, hg1, row1, hb1⟩
    have r1 := Rd.of_row row1 (Nat.le_refl _)
    have hr1 := hr.bl hb1
    replace S := S.bl hb1
    go_wp2_with fail
    with_reducible (refine (C0.out _ _ _ r1).mono ?_)
    rintro _ w2 ⟨rfl, hb2⟩
    have hr2 := hr1.bl hb2
    replace S := S.bl hb2
    clear hb1 hb2 r1 row1 hr1
    go_wp2_with fail
    refine (toInt64S_any p c l _ hn hr2).mono ?_
    rintro e w3 ⟨g2, rfl, hg2, row2, hb3⟩
    have r2 := Rd.of_row row2 (Nat.le_refl _)
    have hr3 := hr2.bl hb3
    replace S := S.bl hb3
    go_wp2_with fail
    with_reducible (refine (C1.out _ _ _ r2 S.below).mono ?_)
    rintro _ w4 ⟨rfl, hb4⟩
    have hr4 := hr3.bl hb4
    have r4 := r2.bl hb4
    replace S := S.bl hb4
    clear hb3 hb4 r2 row2 hr3
    go_wp2_with fail
    refine (toInt64S_any p c l _ hn hr4).mono ?_
    rintro e w5 ⟨g3, rfl, hg3, row3, hb5⟩
    have r3 := Rd.of_row row3 (Nat.le_refl _)
    have r5 := r4.bl hb5
    replace S := S.bl hb5
    go_wp2_with fail
    refine (eqInt64S_same _ _ _ _ l _ hn r5 r3).mono ?_
    rintro e w6 ⟨rfl, n6, rfl⟩
    replace S := S.bl (bl_drewN _ n6)
    go_wp2
    go_ret
    exact ⟨rfl, S.below⟩
open Go.ChangeShapes Go.WideShapes Go.ChangeAt Go.WideMaps Go.WideElems
open Go.ChangeMaps (open_string shut_string)
theorem door_met (os : Os) (args : Array Value) : laidMetH Tryd.prog Rows.fnExactListTextRow.laid ((World.laidAll Tryd.prog os Rows.fnExactListTextRow.laid).forCall (fun _ _ => 0) ⟨#[], args, []⟩).memory := by
  rw [MakeChecks.laidMetH_plain _ _ _ (by kernel_rfl)]
  exact laidMet_laidAll _ (by kernel_rfl) (by kernel_rfl)
set_option maxRecDepth 100000 in
theorem lifted (os : Os) (started : os.Started) (H : Type) (enc : TypeId × Value → H) :
    ReturnsInHanded {} Tryd.checked os 6 .any (fun w args => (Rows.fnExactListTextSpec.pre enc Tryd.prog Tryd.f6 Rows.fnExactListTextRow.domain false w args ∧ laidMetH Tryd.prog Rows.fnExactListTextRow.laid w) ∧ sizedMet enc Tryd.prog Tryd.f6 (OpenSpec.ofChange Rows.fnExactListTextSpec) false w args)
      (Rows.fnExactListTextSpec.post enc Tryd.prog Tryd.f6 false true false false) := by
  refine returnsInHanded_both (C := Tryd.checked) (X := fun w _ => laidMetH Tryd.prog Rows.fnExactListTextRow.laid w) (fun _ _ _ hh h => h.of_heap hh) own started (by kernel_rfl) Tryd.func6
    (ChangeSpec.witness_shaped (enc := enc) (C := Tryd.checked) (os := os) (X := fun w _ => laidMetH Tryd.prog Rows.fnExactListTextRow.laid w) false (World.laidAll Tryd.prog os Rows.fnExactListTextRow.laid) #[.slice none 0 0] 8 (World.laidAll_os _ _ _) (World.shaped_of_ZipB (by kernel_rfl) (by kernel_rfl)) (by kernel_rfl) (by kernel_rfl) (by kernel_rfl) (door_met os _)) ?_
  intro W base args ds gs before hval0 hW _ _ hL hsh _
  have hval : ∀ (j : Nat) t v, Tryd.f6.params[j]? = some t → args[j]? = some v → Value.okWide Tryd.prog W .any base t v := hval0
  have hW' := hW
  obtain ⟨p, q, hA0, hV, rfl, hfz, hnd⟩ := hW
  have hA : DataW.TrodAll enc Tryd.prog W 0 (fun _ => true) true Tryd.f6.params.toList args.toList ds p := hA0
  rw [Tryd.params6] at hA hval
  obtain ⟨v0, vs0, d0, ds0, p0, q0, hargs, rfl, rfl, h0, r0⟩ := trodAll_cons hA
  obtain ⟨rfl, rfl, rfl⟩ := trodAll_nil r0
  obtain rfl : args = #[v0] := by cases args; simp_all
  obtain ⟨rfl, rfl⟩ := trodVars_none hV
  have t0 : ∀ x ∈ p0, x.block < W.heap.size := fun x hx => hW'.lt x (by simp [hx])
  have k0 := hval 0 22 v0 rfl rfl
  have m0 := h0
  obtain ⟨p0, c0, l0, rfl, p0n, p0s, p0r⟩ := open_Ints k0 h0
  refine (walk p0 c0 l0 W p0n p0s p0r hL hsh).mono fun e W' ⟨he, hb⟩ => ?_
  subst he
  refine ⟨_, rfl, _, _, _, [], _, [], hW', trodAll_mk1 (shut_bool Tryd.underlying4 _), (trodAll_cons_mk (Below.trod laidOut (by kernel_rfl) (of_decide_eq_true (by kernel_rfl)) m0 hb t0) trodAll_mk0), rfl, hb.frame _, fun h => by cases h⟩

theorem over : Rows.FnExactListTextSaid :=
  OpenClaim.holds_of_wide 6 Tryd.f6 rfl rfl rfl rfl rfl rfl rfl ⟨rfl, rfl, rfl, rfl, rfl⟩ rfl rfl rfl rfl rfl (by kernel_rfl) Tryd.func6 (by kernel_rfl)
    (of_decide_eq_true (by kernel_rfl)) (by unfold Func.isWrapper; first | (rw [if_pos (by decide +kernel)]; kernel_rfl) | (rw [if_neg (by decide +kernel)]; exact ⟨rfl, rfl⟩))
    (fun os started H enc _ => lifted os started H enc)
theorem proved : Rows.FnExactListTextCardSaid :=
  Claim7.holds_tied_plain_at .later [] [.data, .data, .data] true (true, "1cd386d3da6075c0dca19b1ba8f908361e0b534a46c9bf5e315f5dfc954a71f5") true
    over (fun _ h => by cases h) (by kernel_rfl) (fun _ h => by cases h) fnExactListText_row_tie rfl ⟨rfl, rfl⟩ (by kernel_rfl) rfl
    (fun f fn hf hfn => by
      obtain rfl : f = 6 := Option.some.inj ((show Tryd.prog.funcNamed "loop.example/g01165/laws.FnExactListText" = some 6 by kernel_rfl).symm.trans hf) |>.symm
      obtain rfl : fn = Tryd.f6 := (Option.some.inj (Tryd.func6.symm.trans hfn)).symm
      exact ⟨by kernel_rfl, fun j t ht => by
        rw [Tryd.params6] at ht
        have hm : t ∈ [22] := by simpa using Array.mem_of_getElem? ht
        have hall : ([22].all fun u => !Tryd.prog.wantsStandIn u) = true := by kernel_rfl
        exact (show Tryd.prog.wantsStandIn t = false by simpa using List.all_eq_true.1 hall t hm)⟩)
    (by kernel_rfl)

end Go.Proofs.YtdjjfgkcheimjaaDoor.lawListText
