/- The law of InvertGrey: for every input the call returns true, and the input reads as it did. -/
import Derived.Test.YtedgjcmimdblgaaGreyJ
import Derived.Test.YtedgjcmimdblgaaGreyR
import Derived.Test.YtedgjcmimdblgaaMarkFix
import Derived.Test.YtedgjcmimdblgaaOpenG
set_option linter.unusedVariables false
set_option linter.unusedSimpArgs false
namespace Go.Proofs.Ytedgjcmimdblgaa.lawInvertGrey
open Go.RowKit Go.Proofs.Ytedgjcmimdblgaa

theorem OwnSSI.rds {lo hi : Nat} {w : World} {p : Option Addr} {n c : Nat} {L : List (List Int)} (h : OwnSSI lo hi w (.slice p n c) L) : RdSS w p L := h.rd
theorem invG_ok (L : List (List Int)) : SSok (invG L) := by
  unfold invG
  split
  · rename_i h
    obtain ⟨h1, h2, h3, h4, _, _⟩ := okG_true h
    have h5 : L.length * (L.getD 0 []).length ≤ 16 * 16 := Nat.mul_le_mul h2 h4
    refine ⟨by rw [gridL_len]; omega, ?_, fun l' hl => by rw [gridL_mem hl]; omega⟩
    rw [gridL_len, gridL_lenTo _ _ _ _ (Nat.le_refl _)]
    omega
  · exact ⟨by simp, by simp [lenTo], by simp⟩
set_option maxRecDepth 100000 in
set_option maxHeartbeats 8000000 in
theorem walk (p : Option Addr) (c : Nat) (L : List (List Int)) (w : World) (hn' : L.length ≤ maxLen) (hs' : ∀ l ∈ L, l.length ≤ maxLen) (hr : RdSS w p L) :
    Calls Try.prog 4 #[.agg #[.slice p L.length c]] w fun e w' => e = .returned (.bool true) ∧ Below w.heap.size w w' := by
  have hy := bl_alloc w (.cells #[.slice p L.length c] 24)
  have A := Box.new w (.slice p L.length c) 24
  have S := (Since.refl w).bl hy
  have R := (ArgSS.of hr).bl hy
  have k0 := A.cell
  have cz := szGrey_any p c L 1048576 _ hn' hs' (by omega) (by omega) R.rd
  have z0 := hy.size
  rw [World.size_alloc] at z0
  have Cz := Lib.hid cz; clear cz
  clear hs' hr hy
  go_enter Try.func4, Try.ntmps4
  go_wp2_with fail
  with_reducible (refine Cz.out.mono ?_)
  rintro e w1 ⟨r, rfl, hz, hb⟩
  have z1 := hb.size
  rw [World.size_alloc] at z1
  replace S := S.bl hb
  replace R := R.bl hb
  replace A := A.bl hb
  clear hb k0 Cz
  rcases hz with hz | ⟨hz0, hz1, hn, hs, hm⟩
  · go_wp2
    go_ret
    exact ⟨rfl, S.below⟩
  · have hL : SSok L := ⟨hn, hm, hs⟩
    have hI := invG_ok L
    have k0 := A.cell
    have ct := fun w h => toGrey_any p c L w hn hs h
    have cs := fun q w h => sInvertGrey_any q L.length L w hn hs h
    have ci := fun q w h => invertGrey_any q L.length L w hn hs h
    have ceL := fun q q' w h h' => eqGrey_same q q' L.length L.length L w hn hs h h'
    have ceI := fun q q' d d' w h h' => eqGrey_same q q' d d' (invG L) w hI.n hI.e h h'
    generalize okG L 99 = ok at *
    generalize invG L = I at *
    have hI1 := hI.n
    have Ct := Lib.hid ct; clear ct
    have Cs := Lib.hid cs; clear cs
    have Ci := Lib.hid ci; clear ci
    have CeL := Lib.hid ceL; clear ceL
    have CeI := Lib.hid ceI; clear ceI
    have Hs := Lib.hid hs; clear hs
    have HL := Lib.hid hL; clear hL
    have HI := Lib.hid hI; clear hI
    clear hm
    go_wp2_with fail
    with_reducible (refine (Ct.out _ R.rd).mono ?_)
    rintro e w2 ⟨g, rfl, O, hb⟩
    have Q := (OwnSS.cap O).rd
    have z2 := hb.size
    replace S := S.bl hb
    replace R := R.bl hb
    replace A := A.bl hb
    clear hb k0 O
    go_wp2_with fail
    with_reducible (refine (Cs.out _ _ Q).mono ?_)
    rintro e w3 ⟨v, rfl, O, hb⟩
    have OW := OwnSS.cap O
    obtain ⟨qW, dW, rfl⟩ := OW.form
    have z3 := hb.size
    replace S := S.bl hb
    replace R := R.bl hb
    replace A := A.bl hb
    clear hb Q O
    have hy := bl_alloc w3 (.cells #[.slice qW I.length dW] 27)
    have B4 := Box.new w3 (.slice qW I.length dW) 27
    replace S := S.bl hy
    replace R := R.bl hy
    replace A := A.bl hy
    replace OW := OW.bl hy
    have z4 := hy.size
    rw [World.size_alloc] at z4
    clear hy
    have k0 := A.cell
    go_wp2_with fail
    with_reducible (refine (Ct.out _ R.rd).mono ?_)
    rintro e w4 ⟨gX, rfl, O, hb⟩
    have X := OwnSS.cap O
    rw [World.size_alloc] at X
    have z5 := hb.size
    rw [World.size_alloc] at z5
    replace S := S.bl hb
    replace R := R.bl hb
    replace A := A.bl hb
    replace OW := OW.bl hb
    replace B4 := B4.bl hb
    clear hb k0 O
    have hy := bl_alloc w4 (.cells #[.slice (some ⟨gX, 0, none⟩) L.length L.length] 27)
    have B6 := Box.new w4 (.slice (some ⟨gX, 0, none⟩) L.length L.length) 27
    replace S := S.bl hy
    replace R := R.bl hy
    replace A := A.bl hy
    replace OW := OW.bl hy
    replace B4 := B4.bl hy
    replace X := X.bl hy
    clear hy
    have k0 := B6.cell
    go_wp2_with fail
    with_reducible (refine (Ci.out _ _ X.rd).mono ?_)
    rintro e w5 ⟨v, rfl, O, hb⟩
    have OG := OwnSS.cap O
    rw [World.size_alloc] at OG
    obtain ⟨qG, dG, rfl⟩ := OG.form
    have z6 := hb.size
    rw [World.size_alloc] at z6
    replace S := S.bl hb
    replace R := R.bl hb
    replace A := A.bl hb
    replace OW := OW.bl hb
    replace B4 := B4.bl hb
    replace X := X.bl hb
    replace B6 := B6.bl hb
    clear hb k0 O
    have hy := bl_alloc w5 (.cells #[.slice qG I.length dG] 27)
    have B7 := Box.new w5 (.slice qG I.length dG) 27
    replace S := S.bl hy
    replace R := R.bl hy
    replace A := A.bl hy
    replace OW := OW.bl hy
    replace B4 := B4.bl hy
    replace X := X.bl hy
    replace B6 := B6.bl hy
    replace OG := OG.bl hy
    clear hy
    have k0 := B7.cell
    have k1 := B4.cell
    go_wp2_with fail
    with_reducible (refine (CeI.out _ _ _ _ _ OG.rd OW.rd).mono ?_)
    rintro e w6 ⟨rfl, hb⟩
    have z7 := hb.size
    rw [World.size_alloc] at z7
    replace S := S.bl hb
    replace R := R.bl hb
    replace A := A.bl hb
    replace OW := OW.bl hb
    replace B4 := B4.bl hb
    replace X := X.bl hb
    replace B6 := B6.bl hb
    replace OG := OG.bl hb
    replace B7 := B7.bl hb
    clear hb k0 k1
    go_wp2_with fail
    have y0 := bl_drew w6
    replace S := S.bl y0
    replace R := R.bl y0
    replace A := A.bl y0
    replace OW := OW.bl y0
    replace B4 := B4.bl y0
    replace X := X.bl y0
    replace B6 := B6.bl y0
    replace OG := OG.bl y0
    replace B7 := B7.bl y0
    clear y0
    have k0 := A.cell
    have k1 := B6.cell
    go_region_held3 (fun w' => w'.cell? ⟨w4.heap.size, 0, none⟩ = some (.slice (some ⟨gX, 0, none⟩) L.length L.length) ∧ w'.cell? ⟨w.heap.size, 0, none⟩ = some (.slice p L.length c))
      (first | exact ⟨k1, k0⟩ | exact ⟨(B6.bl hb_7).cell, (A.bl hb_7).cell⟩ | exact ⟨((B6.bl hb_7).bl hb_8).cell, ((A.bl hb_7).bl hb_8).cell⟩)
      ((first | (go_at_call 7; with_reducible (refine (Ct.out _ R.rd).mono ?_); rintro e w7 ⟨g3, rfl, O, hb_7⟩; have Q3 := (OwnSS.cap O).rd) | (go_at_call 9; with_reducible (refine (CeL.out _ _ _ ((X.bl hb_7).rd) Q3).mono ?_); rintro e w8 ⟨rfl, hb_8⟩)))
    replace S := S.bl hb_7
    replace R := R.bl hb_7
    replace A := A.bl hb_7
    replace OW := OW.bl hb_7
    replace B4 := B4.bl hb_7
    replace X := X.bl hb_7
    replace B6 := B6.bl hb_7
    replace OG := OG.bl hb_7
    replace B7 := B7.bl hb_7
    replace S := S.bl hb_8
    replace R := R.bl hb_8
    replace A := A.bl hb_8
    replace OW := OW.bl hb_8
    replace B4 := B4.bl hb_8
    replace X := X.bl hb_8
    replace B6 := B6.bl hb_8
    replace OG := OG.bl hb_8
    replace B7 := B7.bl hb_8
    have z8 := hb_7.size
    have z9 := hb_8.size
    (try simp only [szDrew] at z8)
    clear k0 k1 hb_7 hb_8 O Q3
    have k0 := B6.cell
    have cm := markGrey_f X HL.out (by omega)
    have h1k : (0 : Int) ≤ ((1 + lenTo L L.length : Nat) : Int) := Int.natCast_nonneg _
    generalize ((1 + lenTo L L.length : Nat) : Int) = mL at *
    have Cm := Lib.hid cm; clear cm
    go_wp2_with fail
    with_reducible (refine Cm.out.mono ?_)
    rintro e w9 ⟨rfl, -, hb, hf⟩
    have z10 := hb.size
    replace S := Since.under S hb (by omega)
    replace R := R.under hb (by omega)
    replace A := A.below hb (by omega)
    replace OW := OW.under hb (by omega)
    replace B4 := B4.below hb (by omega)
    replace B7 := B7.fix hf (by omega)
    replace OG := OG.fix hf (by omega)
    clear hb hf X B6 k0 Cm
    have k0 := B7.cell
    have k1 := B4.cell
    go_wp2_with fail
    with_reducible (refine (CeI.out _ _ _ _ _ OG.rd OW.rd).mono ?_)
    rintro e w10 ⟨rfl, hb⟩
    have z11 := hb.size
    replace S := S.bl hb
    replace R := R.bl hb
    replace A := A.bl hb
    replace OW := OW.bl hb
    replace B4 := B4.bl hb
    replace OG := OG.bl hb
    replace B7 := B7.bl hb
    clear hb k0 k1
    have k0 := B7.cell
    have cm := markGrey_f OG HI.out (by omega)
    have ch := fun c w (h : MarkSS w qG I) => heldGrey_f c h HI.out
    have h2k : (0 : Int) ≤ ((1 + lenTo I I.length : Nat) : Int) := Int.natCast_nonneg _
    generalize ((1 + lenTo I I.length : Nat) : Int) = mI at *
    have Cm := Lib.hid cm; clear cm
    have Ch := Lib.hid ch; clear ch
    go_wp2_with fail
    with_reducible (refine Cm.out.mono ?_)
    rintro e w11 ⟨rfl, M, hb, hf⟩
    have z12 := hb.size
    replace S := Since.under S hb (by omega)
    replace R := R.under hb (by omega)
    replace A := A.below hb (by omega)
    replace OW := OW.under hb (by omega)
    replace B4 := B4.below hb (by omega)
    replace B7 := B7.fix hf (by omega)
    clear hb hf OG k0 Cm
    have k0 := B7.cell
    go_wp2_with fail
    with_reducible (refine (Ch.out _ _ M).mono ?_)
    rintro e w12 ⟨rfl, hb⟩
    replace S := S.bl hb
    replace R := R.bl hb
    replace A := A.bl hb
    replace OW := OW.bl hb
    replace B4 := B4.bl hb
    replace B7 := B7.bl hb
    replace M := M.bl hb
    clear hb k0
    have k0 := A.cell
    go_wp2_with fail
    with_reducible (refine (Ct.out _ R.rd).mono ?_)
    rintro e w13 ⟨gY, rfl, O, hb⟩
    have Q := (OwnSS.cap O).rd
    replace S := S.bl hb
    replace R := R.bl hb
    replace A := A.bl hb
    replace OW := OW.bl hb
    replace B4 := B4.bl hb
    replace B7 := B7.bl hb
    replace M := M.bl hb
    clear hb k0 O
    go_wp2_with fail
    with_reducible (refine (Ci.out _ _ Q).mono ?_)
    rintro e w14 ⟨v, rfl, O, hb⟩
    have OH := OwnSS.cap O
    obtain ⟨qH, dH, rfl⟩ := OH.form
    replace S := S.bl hb
    replace R := R.bl hb
    replace A := A.bl hb
    replace OW := OW.bl hb
    replace B4 := B4.bl hb
    replace B7 := B7.bl hb
    replace M := M.bl hb
    clear hb O Q
    have hy := bl_alloc w14 (.cells #[.slice qH I.length dH] 27)
    have B12 := Box.new w14 (.slice qH I.length dH) 27
    replace S := S.bl hy
    replace R := R.bl hy
    replace A := A.bl hy
    replace OW := OW.bl hy
    replace B4 := B4.bl hy
    replace B7 := B7.bl hy
    replace M := M.bl hy
    replace OH := OH.bl hy
    clear hy
    have k0 := B12.cell
    have k1 := B4.cell
    go_wp2_with fail
    with_reducible (refine (CeI.out _ _ _ _ _ OH.rd OW.rd).mono ?_)
    rintro e w15 ⟨rfl, hb⟩
    replace S := S.bl hb
    replace B7 := B7.bl hb
    replace M := M.bl hb
    clear hb k0 k1 OH OW B4 B12 A R
    have k0 := B7.cell
    go_wp2_with fail
    with_reducible (refine (Ch.out _ _ M).mono ?_)
    rintro e w16 ⟨rfl, hb⟩
    replace S := S.bl hb
    clear hb k0 M B7
    go_wp2
    go_ret
    exact ⟨rfl, S.below⟩
open Go.ChangeShapes Go.WideShapes Go.ChangeAt
open Go.ChangeMaps (open_string shut_string)

set_option maxRecDepth 100000 in
theorem lifted (os : Os) (started : os.Started) (H : Type) (enc : TypeId × Value → H) :
    ReturnsInHanded {} Try.checked os 4 .any (Rows.fnExactInvertGreySpec.pre6 enc Try.prog Try.f4 Rows.fnExactInvertGreyRow.domain false) (Rows.fnExactInvertGreySpec.post enc Try.prog Try.f4 false true false false) := by
  refine returnsInHanded_of_change (C := Try.checked) own started (by kernel_rfl) Try.func4
    (ChangeSpec.witness6 (enc := enc) (C := Try.checked) false ⟨#[], #[.agg #[.slice none 0 0]], []⟩ 8 (by kernel_rfl) (by kernel_rfl) (by kernel_rfl) (by kernel_rfl)) ?_
  intro W base args ds gs before hval0 hW hcnd _
  have hval : ∀ (j : Nat) t v, Try.f4.params[j]? = some t → args[j]? = some v → Value.okWide Try.prog W .any base t v := hval0
  have hW' := hW
  obtain ⟨p, q, hA0, hV, rfl, hfz, hnd⟩ := hW
  have hA : DataW.TrodAll enc Try.prog W 0 (fun _ => true) true Try.f4.params.toList args.toList ds p := hA0
  rw [Try.params4] at hA hval
  obtain ⟨v0, vs0, d0, ds0, p0, q0, hargs, rfl, rfl, h0, r0⟩ := trodAll_cons hA
  obtain ⟨rfl, rfl, rfl⟩ := trodAll_nil r0
  obtain rfl : args = #[v0] := by cases args; simp_all
  obtain ⟨rfl, rfl⟩ := trodVars_none hV
  have t0 : ∀ x ∈ p0, x.block < W.heap.size := fun x hx => hW'.lt x (by simp [hx])
  have k0 := hval 0 24 v0 rfl rfl
  have m0 := h0
  obtain ⟨p0', c0', g0', rfl, p0'n, p0's, p0'r⟩ := open_Grey k0 h0
  refine (walk p0' c0' g0' W p0'n p0's p0'r).mono fun e W' ⟨he, hb⟩ => ?_
  subst he
  refine ⟨_, rfl, _, _, _, [], _, [], hW', trodAll_mk1 (shut_bool Try.underlying4 _), (trodAll_cons_mk (Below.trod laidOut (by kernel_rfl) (of_decide_eq_true (by kernel_rfl)) m0 hb t0) trodAll_mk0), rfl, hb.frame _, fun h => by cases h⟩

theorem over : Rows.fnExactInvertGreyRow.holds Try.pinned (OpenSpec.ofChange Rows.fnExactInvertGreySpec) :=
  OpenClaim.holds_of_wide 4 Try.f4 rfl rfl rfl rfl rfl rfl rfl ⟨rfl, rfl, rfl, rfl, rfl⟩ rfl rfl rfl rfl rfl (by kernel_rfl) Try.func4 (by kernel_rfl)
    (of_decide_eq_true (by kernel_rfl)) (by unfold Func.isWrapper; first | (rw [if_pos (by decide +kernel)]; kernel_rfl) | (rw [if_neg (by decide +kernel)]; exact ⟨rfl, rfl⟩))
    (fun os started H enc _ => lifted os started H enc)

theorem proved : Rows.FnExactInvertGreySaid := over
#print axioms proved
end Go.Proofs.Ytedgjcmimdblgaa.lawInvertGrey
