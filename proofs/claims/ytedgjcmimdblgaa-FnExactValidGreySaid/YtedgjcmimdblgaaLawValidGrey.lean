/- The law of ValidGrey: for every input the call returns true, and the input reads as it did. -/
import Derived.Test.YtedgjcmimdblgaaGreyI
import Derived.Test.YtedgjcmimdblgaaLawGrey
import Derived.Test.YtedgjcmimdblgaaOpenG
set_option linter.unusedVariables false
set_option linter.unusedSimpArgs false
namespace Go.Proofs.Ytedgjcmimdblgaa.lawValidGrey
open Go.RowKit Go.Proofs.Ytedgjcmimdblgaa

theorem OwnSS.rds {B : Nat} {w : World} {p : Option Addr} {n c : Nat} {L : List (List Int)} (h : OwnSS B w (.slice p n c) L) : RdSS w p L := by
  obtain ⟨vs, h⟩ := h
  exact h.rds
set_option maxRecDepth 100000 in
set_option maxHeartbeats 4000000 in
theorem walk (p : Option Addr) (c : Nat) (L : List (List Int)) (w : World) (hn' : L.length ≤ maxLen) (hs' : ∀ l ∈ L, l.length ≤ maxLen) (hr : RdSS w p L) :
    Calls Try.prog 3 #[.agg #[.slice p L.length c]] w fun e w' => e = .returned (.bool true) ∧ Below w.heap.size w w' := by
  have hy := bl_alloc w (.cells #[.slice p L.length c] 24)
  have A := Box.new w (.slice p L.length c) 24
  have S := (Since.refl w).bl hy
  have R := hr.bl hy
  have k0 := A.cell
  have cz := szGrey_any p c L 1048576 _ hn' hs' (by omega) (by omega) R
  have Cz := Lib.hid cz; clear cz
  clear hs' hr hy
  go_enter Try.func3, Try.ntmps3
  go_wp2_with fail
  with_reducible (refine Cz.out.mono ?_)
  rintro e w1 ⟨r, rfl, hz, hb⟩
  replace S := S.bl hb
  replace R := R.bl hb
  replace A := A.bl hb
  clear hb k0 Cz
  rcases hz with hz | ⟨hz0, hz1, hn, hs, -⟩
  · go_wp2
    go_ret
    exact ⟨rfl, S.below⟩
  · have k0 := A.cell
    have ct := fun w h => toGrey_any p c L w hn hs h
    have cs := fun q w h => sValidGrey_any q L.length L w hn hs h
    have ci := fun q w h => validGrey_any q L.length L w hn hs h
    have ce := fun q q' w h h' => eqGrey_same q q' L.length L.length L w hn hs h h'
    generalize okG L 99 = ok at *
    have Ct := Lib.hid ct; clear ct
    have Cs := Lib.hid cs; clear cs
    have Ci := Lib.hid ci; clear ci
    have Ce := Lib.hid ce; clear ce
    have Hs := Lib.hid hs; clear hs
    go_wp2_with fail
    with_reducible (refine (Ct.out _ R).mono ?_)
    rintro e w2 ⟨g, rfl, O, hb⟩
    have Q := OwnSS.rds O
    replace S := S.bl hb
    replace R := R.bl hb
    replace A := A.bl hb
    clear hb k0 O
    go_wp2_with fail
    with_reducible (refine (Cs.out _ _ Q).mono ?_)
    rintro e w3 ⟨rfl, hb⟩
    replace S := S.bl hb
    replace R := R.bl hb
    replace A := A.bl hb
    clear hb Q
    have k0 := A.cell
    go_wp2_with fail
    with_reducible (refine (Ct.out _ R).mono ?_)
    rintro e w4 ⟨g2, rfl, O, hb⟩
    have Q := OwnSS.rds O
    replace S := S.bl hb
    replace R := R.bl hb
    replace A := A.bl hb
    clear hb k0 O
    have hy := bl_alloc w4 (.cells #[.slice (some ⟨g2, 0, none⟩) L.length L.length] 27)
    have B := Box.new w4 (.slice (some ⟨g2, 0, none⟩) L.length L.length) 27
    replace S := S.bl hy
    replace R := R.bl hy
    replace A := A.bl hy
    replace Q := Q.bl hy
    clear hy
    have k0 := B.cell
    go_wp2_with fail
    with_reducible (refine (Ci.out _ _ Q).mono ?_)
    rintro e w5 ⟨rfl, hb⟩
    replace S := S.bl hb
    replace R := R.bl hb
    replace A := A.bl hb
    replace Q := Q.bl hb
    replace B := B.bl hb
    clear hb k0
    have y0 := bl_drew w5
    replace S := S.bl y0
    replace R := R.bl y0
    replace A := A.bl y0
    replace Q := Q.bl y0
    replace B := B.bl y0
    clear y0
    have k0 := A.cell
    have k1 := B.cell
    go_wp2_with fail
    go_region_held3 (fun w' => w'.cell? ⟨w4.heap.size, 0, none⟩ = some (.slice (some ⟨g2, 0, none⟩) L.length L.length) ∧ w'.cell? ⟨w.heap.size, 0, none⟩ = some (.slice p L.length c))
      (first | exact ⟨k1, k0⟩ | exact ⟨(B.bl hb_7).cell, (A.bl hb_7).cell⟩ | exact ⟨((B.bl hb_7).bl hb_8).cell, ((A.bl hb_7).bl hb_8).cell⟩)
      ((first | (go_at_call 7; with_reducible (refine (Ct.out _ R).mono ?_); rintro e w7 ⟨g3, rfl, O, hb_7⟩; have Q3 := OwnSS.rds O) | (go_at_call 9; with_reducible (refine (Ce.out _ _ _ (Q.bl hb_7) Q3).mono ?_); rintro e w8 ⟨rfl, hb_8⟩)))
    replace S := (S.bl hb_7).bl hb_8
    clear k0 k1
    go_wp2
    go_ret
    exact ⟨rfl, S.below⟩
open Go.ChangeShapes Go.WideShapes Go.ChangeAt
open Go.ChangeMaps (open_string shut_string)

set_option maxRecDepth 100000 in
theorem lifted (os : Os) (started : os.Started) (H : Type) (enc : TypeId × Value → H) :
    ReturnsInHanded {} Try.checked os 3 .any (Rows.fnExactValidGreySpec.pre6 enc Try.prog Try.f3 Rows.fnExactValidGreyRow.domain false) (Rows.fnExactValidGreySpec.post enc Try.prog Try.f3 false true false false) := by
  refine returnsInHanded_of_change (C := Try.checked) own started (by kernel_rfl) Try.func3
    (ChangeSpec.witness6 (enc := enc) (C := Try.checked) false ⟨#[], #[.agg #[.slice none 0 0]], []⟩ 8 (by kernel_rfl) (by kernel_rfl) (by kernel_rfl) (by kernel_rfl)) ?_
  intro W base args ds gs before hval0 hW hcnd _
  have hval : ∀ (j : Nat) t v, Try.f3.params[j]? = some t → args[j]? = some v → Value.okWide Try.prog W .any base t v := hval0
  have hW' := hW
  obtain ⟨p, q, hA0, hV, rfl, hfz, hnd⟩ := hW
  have hA : DataW.TrodAll enc Try.prog W 0 (fun _ => true) true Try.f3.params.toList args.toList ds p := hA0
  rw [Try.params3] at hA hval
  obtain ⟨v0, vs0, d0, ds0, p0, q0, hargs, rfl, rfl, h0, r0⟩ := trodAll_cons hA
  obtain ⟨rfl, rfl, rfl⟩ := trodAll_nil r0
  obtain rfl : args = #[v0] := by cases args; simp_all
  obtain ⟨rfl, rfl⟩ := trodVars_none hV
  have t0 : ∀ x ∈ p0, x.block < W.heap.size := fun x hx => hW'.lt x (by simp [hx])
  have k0 := hval 0 24 v0 rfl rfl
  have m0 := h0
  obtain ⟨p0', c0', g0', rfl, p0'n, p0's, p0'r⟩ := open_Grey k0 h0
  refine (walk p0' c0' g0' W p0'n p0's p0'r).mono fun e W' ⟨he, hb⟩ => ?_
  subst he
  refine ⟨_, rfl, _, _, _, [], _, [], hW', trodAll_mk1 (shut_bool Try.underlying4 _), (trodAll_cons_mk (Below.trod laidOut (by kernel_rfl) (of_decide_eq_true (by kernel_rfl)) m0 hb t0) trodAll_mk0), rfl, hb.frame _, fun h => by cases h⟩

theorem over : Rows.fnExactValidGreyRow.holds Try.pinned (OpenSpec.ofChange Rows.fnExactValidGreySpec) :=
  OpenClaim.holds_of_wide 3 Try.f3 rfl rfl rfl rfl rfl rfl rfl ⟨rfl, rfl, rfl, rfl, rfl⟩ rfl rfl rfl rfl rfl (by kernel_rfl) Try.func3 (by kernel_rfl)
    (of_decide_eq_true (by kernel_rfl)) (by unfold Func.isWrapper; first | (rw [if_pos (by decide +kernel)]; kernel_rfl) | (rw [if_neg (by decide +kernel)]; exact ⟨rfl, rfl⟩))
    (fun os started H enc _ => lifted os started H enc)

theorem proved : Rows.FnExactValidGreySaid := over
#print axioms proved
end Go.Proofs.Ytedgjcmimdblgaa.lawValidGrey
