/- The law of BestShift: for every input the call returns true, and the inputs read as they did. -/
import Derived.Test.YtnenogpagkepfaaTreeB1
import Derived.Test.YtnenogpagkepfaaTreeB2
import Derived.Test.YtnenogpagkepfaaLawKit
import Derived.Test.YtnenogpagkepfaaOpen
set_option linter.unusedVariables false
set_option linter.unusedSimpArgs false
namespace Go.Proofs.Ytnenogpagkepfaa.lawBestShift
open Go.RowKit Go.Proofs.Ytnenogpagkepfaa
set_option maxRecDepth 100000 in
set_option maxHeartbeats 4000000 in
theorem walk (p0 : Option Addr) (c0 : Nat) (ss : List ByteArray) (s : Int) (w : World) (hn0' : ss.length ≤ maxLen) (hs0' : ∀ s ∈ ss, s.size ≤ maxLen) (hr0' : Rd w p0 ss.length (strAt ss)) (hb1' : -9223372036854775808 ≤ s ∧ s ≤ 9223372036854775807) :
    Calls Try.prog 9 #[.agg #[.slice p0 ss.length c0], .int .i64 s] w fun e w' => e = .returned (.bool true) ∧ Below w.heap.size w w' := by
  rcases Int.lt_or_le (szS ss 1048576) 0 with z0 | z0
  · have R0 := ArgRd.of_rd hr0'
    have S := Since.refl w
    replace R0 := R0.bl (bl_alloc w (.cells #[.slice p0 ss.length c0] 34))
    replace S := S.bl (bl_alloc w (.cells #[.slice p0 ss.length c0] 34))
    have A0 := Blk.new w #[.slice p0 ss.length c0] 34
    go_enter Try.func9, Try.ntmps9
    have kA0_0 := A0.cell 0 rfl
    go_wp2_with fail
    refine (szPicture_any _ _ ss _ _ hn0' hs0' (by omega) (by omega) R0.rd).mono ?_
    rw [if_neg (by omega)]
    rintro e w1 ⟨rfl, hb⟩
    replace R0 := R0.bl hb
    replace S := S.bl hb
    replace A0 := A0.bl hb
    have z_1 := hb.size
    (try simp only [World.size_alloc, World.size_setCell, szDrew] at z_1)
    clear hb
    clear kA0_0
    have kA0_0 := A0.cell 0 rfl
    go_wp2
    go_ret
    exact ⟨rfl, S.below⟩
  · have hn0 : ss.length ≤ 1048576 := by have := (szS_ok (by omega) z0).1; omega
    have hs0 : ∀ s ∈ ss, s.size ≤ 1048576 := fun s h => by have := (szS_ok (by omega) z0).2 s h; omega
    have zl0 := szS_le ss 1048576 (by omega)
    have R0 := ArgRd.of_rd hr0'
    have S := Since.refl w
    replace R0 := R0.bl (bl_alloc w (.cells #[.slice p0 ss.length c0] 34))
    replace S := S.bl (bl_alloc w (.cells #[.slice p0 ss.length c0] 34))
    have A0 := Blk.new w #[.slice p0 ss.length c0] 34
    go_enter Try.func9, Try.ntmps9
    have kA0_0 := A0.cell 0 rfl
    go_wp2_with fail
    refine (szPicture_any _ _ ss _ _ hn0' hs0' (by omega) (by omega) R0.rd).mono ?_
    rw [if_pos (by omega)]
    rintro e w1 ⟨rfl, hb⟩
    replace R0 := R0.bl hb
    replace S := S.bl hb
    replace A0 := A0.bl hb
    have z_1 := hb.size
    (try simp only [World.size_alloc, World.size_setCell, szDrew] at z_1)
    clear hb
    clear kA0_0
    have kA0_0 := A0.cell 0 rfl
    go_wp2_with fail
    refine (toPicture_x R0 hn0).mono ?_
    rintro e w2 ⟨gY1, rfl, Y1, hgY1, hb⟩
    replace R0 := R0.bl hb
    replace S := S.bl hb
    replace A0 := A0.bl hb
    have z_2 := hb.size
    (try simp only [World.size_alloc, World.size_setCell, szDrew] at z_2)
    have lY1 := Y1.lt
    (try simp only [World.size_alloc, World.size_setCell, szDrew] at hgY1)
    clear hb
    clear kA0_0
    have kA0_0 := A0.cell 0 rfl
    go_wp2_with fail
    refine (sBestShift_any _ _ ss s _ hn0 hs0 Y1.rd hb1'.1 hb1'.2).mono ?_
    rintro e w3 ⟨rfl, hb⟩
    replace R0 := R0.bl hb
    replace S := S.bl hb
    replace A0 := A0.bl hb
    replace Y1 := Y1.bl hb
    have z_3 := hb.size
    (try simp only [World.size_alloc, World.size_setCell, szDrew] at z_3)
    clear hb
    clear kA0_0
    have kA0_0 := A0.cell 0 rfl
    go_wp2_with fail
    refine (toPicture_x R0 hn0).mono ?_
    rintro e w4 ⟨gY2, rfl, Y2, hgY2, hb⟩
    replace R0 := R0.bl hb
    replace S := S.bl hb
    replace A0 := A0.bl hb
    replace Y1 := Y1.bl hb
    have z_4 := hb.size
    (try simp only [World.size_alloc, World.size_setCell, szDrew] at z_4)
    have lY2 := Y2.lt
    (try simp only [World.size_alloc, World.size_setCell, szDrew] at hgY2)
    clear hb
    clear kA0_0
    have kA0_0 := A0.cell 0 rfl
    replace R0 := R0.bl (bl_alloc w4 (.cells #[.slice (some ⟨gY2, 0, none⟩) ss.length ss.length] 38))
    replace S := S.bl (bl_alloc w4 (.cells #[.slice (some ⟨gY2, 0, none⟩) ss.length ss.length] 38))
    replace A0 := A0.bl (bl_alloc w4 (.cells #[.slice (some ⟨gY2, 0, none⟩) ss.length ss.length] 38))
    replace Y1 := Y1.bl (bl_alloc w4 (.cells #[.slice (some ⟨gY2, 0, none⟩) ss.length ss.length] 38))
    replace Y2 := Y2.bl (bl_alloc w4 (.cells #[.slice (some ⟨gY2, 0, none⟩) ss.length ss.length] 38))
    have B1 := Blk.new w4 #[.slice (some ⟨gY2, 0, none⟩) ss.length ss.length] 38
    (try simp only [World.size_alloc] at B1)
    clear kA0_0
    have kA0_0 := A0.cell 0 rfl
    have kB1_0 := B1.cell 0 rfl
    go_wp2_with fail
    refine (bestShift_any _ _ ss s _ hn0 hs0 Y2.rd hb1'.1 hb1'.2).mono ?_
    rintro e w5 ⟨rfl, hb⟩
    replace R0 := R0.bl hb
    replace S := S.bl hb
    replace A0 := A0.bl hb
    replace Y1 := Y1.bl hb
    replace Y2 := Y2.bl hb
    replace B1 := B1.bl hb
    have z_5 := hb.size
    (try simp only [World.size_alloc, World.size_setCell, szDrew] at z_5)
    clear hb
    clear kA0_0 kB1_0
    have kA0_0 := A0.cell 0 rfl
    have kB1_0 := B1.cell 0 rfl
    have y_0 := bl_drew w5
    replace R0 := R0.bl y_0
    replace S := S.bl y_0
    replace A0 := A0.bl y_0
    replace Y1 := Y1.bl y_0
    replace Y2 := Y2.bl y_0
    replace B1 := B1.bl y_0
    clear y_0
    clear kA0_0 kB1_0
    have kB1_0 := B1.cell 0 rfl
    have kA0_0 := A0.cell 0 rfl
    go_wp2_with fail
    go_region_held3 (fun w' => w'.cell? ⟨w4.heap.size, 0, none⟩ = some (.slice (some ⟨gY2, 0, none⟩) ss.length ss.length) ∧ w'.cell? ⟨w.heap.size, 0, none⟩ = some (.slice p0 ss.length c0))
      (first | exact ⟨B1.cell 0 rfl, A0.cell 0 rfl⟩ | exact ⟨(B1.bl hb_6).cell 0 rfl, (A0.bl hb_6).cell 0 rfl⟩ | exact ⟨((B1.bl hb_6).bl hb_7).cell 0 rfl, ((A0.bl hb_6).bl hb_7).cell 0 rfl⟩)
      ((first | (go_at_call 22; with_reducible (refine (toPicture_x R0 hn0).mono ?_); rintro e w6 ⟨gY3, rfl, Y3, hgY3, hb_6⟩; have lY3 := Y3.lt) | (go_at_call 25; with_reducible (refine (eqPicture_same _ _ _ _ ss _ hn0 (Y2.bl hb_6).rd Y3.rd).mono ?_); rintro e w7 ⟨rfl, hb_7⟩)))
    replace R0 := R0.bl hb_6
    replace S := S.bl hb_6
    replace A0 := A0.bl hb_6
    replace Y1 := Y1.bl hb_6
    replace Y2 := Y2.bl hb_6
    replace B1 := B1.bl hb_6
    have z_6 := hb_6.size
    (try simp only [World.size_alloc, World.size_setCell, szDrew] at z_6)
    replace R0 := R0.bl hb_7
    replace S := S.bl hb_7
    replace A0 := A0.bl hb_7
    replace Y1 := Y1.bl hb_7
    replace Y2 := Y2.bl hb_7
    replace B1 := B1.bl hb_7
    replace Y3 := Y3.bl hb_7
    have z_7 := hb_7.size
    (try simp only [World.size_alloc, World.size_setCell, szDrew] at z_7)
    (try simp only [World.size_alloc, World.size_setCell, szDrew] at hgY3)
    clear hb_6 hb_7
    clear kB1_0 kA0_0
    have kA0_0 := A0.cell 0 rfl
    have kB1_0 := B1.cell 0 rfl
    clear kA0_0 kB1_0
    have kA0_0 := A0.cell 0 rfl
    have kB1_0 := B1.cell 0 rfl
    go_wp2
    go_ret
    exact ⟨rfl, S.below⟩
open Go.ChangeShapes Go.WideShapes Go.ChangeAt
open Go.ChangeMaps (open_string shut_string)

set_option maxRecDepth 100000 in
theorem lifted (os : Os) (started : os.Started) (H : Type) (enc : TypeId × Value → H) :
    ReturnsInHanded {} Try.checked os 9 .any (Rows.fnExactBestShiftSpec.pre6 enc Try.prog Try.f9 Rows.fnExactBestShiftRow.domain false) (Rows.fnExactBestShiftSpec.post enc Try.prog Try.f9 false true false false) := by
  refine returnsInHanded_of_change (C := Try.checked) own started (by kernel_rfl) Try.func9
    (ChangeSpec.witness6 (enc := enc) (C := Try.checked) false ⟨#[], #[.agg #[.slice none 0 0], .int .i64 0], []⟩ 8 (by kernel_rfl) (by kernel_rfl) (by kernel_rfl) (by kernel_rfl)) ?_
  intro W base args ds gs before hval0 hW hcnd _
  have hval : ∀ (j : Nat) t v, Try.f9.params[j]? = some t → args[j]? = some v → Value.okWide Try.prog W .any base t v := hval0
  have hW' := hW
  obtain ⟨p, q, hA0, hV, rfl, hfz, hnd⟩ := hW
  have hA : DataW.TrodAll enc Try.prog W 0 (fun _ => true) true Try.f9.params.toList args.toList ds p := hA0
  rw [Try.params9] at hA hval
  obtain ⟨v0, vs0, d0, ds0, p0, q0, hargs, rfl, rfl, h0, r0⟩ := trodAll_cons hA
  obtain ⟨v1, vs1, d1, ds1, p1, q1, rfl, rfl, rfl, h1, r1⟩ := trodAll_cons r0
  obtain ⟨rfl, rfl, rfl⟩ := trodAll_nil r1
  obtain rfl : args = #[v0, v1] := by cases args; simp_all
  obtain ⟨rfl, rfl⟩ := trodVars_none hV
  have t0 : ∀ x ∈ p0, x.block < W.heap.size := fun x hx => hW'.lt x (by simp [hx])
  have k0 := hval 0 34 v0 rfl rfl
  have m0 := h0
  obtain ⟨p0', c0', ss0', rfl, p0'n, p0's, p0'r⟩ := open_Picture k0 h0
  have t1 : ∀ x ∈ p1, x.block < W.heap.size := fun x hx => hW'.lt x (by simp [hx])
  have k1 := hval 1 2 v1 rfl rfl
  have m1 := h1
  obtain ⟨x1', rfl, rfl, rfl, x1'w⟩ := open_int Try.underlying2 k1 h1
  refine (walk p0' c0' ss0' x1' W p0'n p0's p0'r (bounds_i64 x1'w)).mono fun e W' ⟨he, hb⟩ => ?_
  subst he
  refine ⟨_, rfl, _, _, _, [], _, [], hW', trodAll_mk1 (shut_bool Try.underlying4 _), (trodAll_cons_mk (Below.trod laidOut (by kernel_rfl) (of_decide_eq_true (by kernel_rfl)) m0 hb t0) (trodAll_cons_mk (Below.trod laidOut (by kernel_rfl) (of_decide_eq_true (by kernel_rfl)) m1 hb t1) trodAll_mk0)), rfl, hb.frame _, fun h => by cases h⟩

theorem over : Rows.fnExactBestShiftRow.holds Try.pinned (OpenSpec.ofChange Rows.fnExactBestShiftSpec) :=
  OpenClaim.holds_of_wide 9 Try.f9 rfl rfl rfl rfl rfl rfl rfl ⟨rfl, rfl, rfl, rfl, rfl⟩ rfl rfl rfl rfl rfl (by kernel_rfl) Try.func9 (by kernel_rfl)
    (of_decide_eq_true (by kernel_rfl)) (by unfold Func.isWrapper; first | (rw [if_pos (by decide +kernel)]; kernel_rfl) | (rw [if_neg (by decide +kernel)]; exact ⟨rfl, rfl⟩))
    (fun os started H enc _ => lifted os started H enc)

theorem proved : Rows.FnExactBestShiftSaid := over
#print axioms proved
end Go.Proofs.Ytnenogpagkepfaa.lawBestShift
