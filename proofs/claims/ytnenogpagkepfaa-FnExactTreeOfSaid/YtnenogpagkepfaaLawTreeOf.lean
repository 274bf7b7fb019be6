/- The law of TreeOf: for every input the call returns true, and the inputs read as they did. -/
import Derived.Test.YtnenogpagkepfaaTreeTo
import Derived.Test.YtnenogpagkepfaaLawTree
import Derived.Test.YtnenogpagkepfaaLawKit
import Derived.Test.YtnenogpagkepfaaOpen
set_option linter.unusedVariables false
set_option linter.unusedSimpArgs false
namespace Go.Proofs.Ytnenogpagkepfaa.lawTreeOf
open Go.RowKit Go.Proofs.Ytnenogpagkepfaa
set_option maxRecDepth 100000 in
set_option maxHeartbeats 4000000 in
theorem walk (p0 : Option Addr) (c0 : Nat) (ss : List ByteArray) (w : World) (hn0' : ss.length ≤ maxLen) (hs0' : ∀ s ∈ ss, s.size ≤ maxLen) (hr0' : Rd w p0 ss.length (strAt ss)) :
    Calls Try.prog 5 #[.agg #[.slice p0 ss.length c0]] w fun e w' => e = .returned (.bool true) ∧ Below w.heap.size w w' := by
  rcases Int.lt_or_le (szS ss 1048576) 0 with z0 | z0
  · have R0 := ArgRd.of_rd hr0'
    have S := Since.refl w
    replace R0 := R0.bl (bl_alloc w (.cells #[.slice p0 ss.length c0] 34))
    replace S := S.bl (bl_alloc w (.cells #[.slice p0 ss.length c0] 34))
    have A0 := Blk.new w #[.slice p0 ss.length c0] 34
    go_enter Try.func5, Try.ntmps5
    have kA0_0 := A0.cell 0 rfl
    go_wp2_with fail
    refine (szPicture_any _ _ ss _ _ hn0' hs0' (by omega) (by omega) R0.rd).mono ?_
    rw [if_neg (by omega)]
    rintro e w1 ⟨rfl, hb⟩
    replace R0 := R0.bl hb
    replace S := S.bl hb
    replace A0 := A0.bl hb
    have z_1 := hb.size
    (try simp only [World.size_alloc, World.size_setCell, szDrew] at z_1)
    clear hb
    clear kA0_0
    have kA0_0 := A0.cell 0 rfl
    go_wp2
    go_ret
    exact ⟨rfl, S.below⟩
  · have hn0 : ss.length ≤ 1048576 := by have := (szS_ok (by omega) z0).1; omega
    have hs0 : ∀ s ∈ ss, s.size ≤ 1048576 := fun s h => by have := (szS_ok (by omega) z0).2 s h; omega
    have zl0 := szS_le ss 1048576 (by omega)
    have R0 := ArgRd.of_rd hr0'
    have S := Since.refl w
    replace R0 := R0.bl (bl_alloc w (.cells #[.slice p0 ss.length c0] 34))
    replace S := S.bl (bl_alloc w (.cells #[.slice p0 ss.length c0] 34))
    have A0 := Blk.new w #[.slice p0 ss.length c0] 34
    go_enter Try.func5, Try.ntmps5
    have kA0_0 := A0.cell 0 rfl
    go_wp2_with fail
    refine (szPicture_any _ _ ss _ _ hn0' hs0' (by omega) (by omega) R0.rd).mono ?_
    rw [if_pos (by omega)]
    rintro e w1 ⟨rfl, hb⟩
    replace R0 := R0.bl hb
    replace S := S.bl hb
    replace A0 := A0.bl hb
    have z_1 := hb.size
    (try simp only [World.size_alloc, World.size_setCell, szDrew] at z_1)
    clear hb
    clear kA0_0
    have kA0_0 := A0.cell 0 rfl
    go_wp2_with fail
    refine (toPicture_x R0 hn0).mono ?_
    rintro e w2 ⟨gY1, rfl, Y1, hgY1, hb⟩
    replace R0 := R0.bl hb
    replace S := S.bl hb
    replace A0 := A0.bl hb
    have z_2 := hb.size
    (try simp only [World.size_alloc, World.size_setCell, szDrew] at z_2)
    have lY1 := Y1.lt
    (try simp only [World.size_alloc, World.size_setCell, szDrew] at hgY1)
    clear hb
    clear kA0_0
    have kA0_0 := A0.cell 0 rfl
    go_wp2_with fail
    refine (sTreeOf_any _ _ ss _ hn0 hs0 Y1.rd).mono ?_
    rintro e w3 ⟨rfl, hb⟩
    replace R0 := R0.bl hb
    replace S := S.bl hb
    replace A0 := A0.bl hb
    replace Y1 := Y1.bl hb
    have z_3 := hb.size
    (try simp only [World.size_alloc, World.size_setCell, szDrew] at z_3)
    clear hb
    clear kA0_0
    have kA0_0 := A0.cell 0 rfl
    replace R0 := R0.bl (bl_alloc w3 (.cells #[.int .i64 (toN ss), .string (toS ss)] 26))
    replace S := S.bl (bl_alloc w3 (.cells #[.int .i64 (toN ss), .string (toS ss)] 26))
    replace A0 := A0.bl (bl_alloc w3 (.cells #[.int .i64 (toN ss), .string (toS ss)] 26))
    replace Y1 := Y1.bl (bl_alloc w3 (.cells #[.int .i64 (toN ss), .string (toS ss)] 26))
    have B1 := Blk.new w3 #[.int .i64 (toN ss), .string (toS ss)] 26
    (try simp only [World.size_alloc] at B1)
    clear kA0_0
    have kA0_0 := A0.cell 0 rfl
    have kB1_0 := B1.cell 0 rfl
    have kB1_1 := B1.cell 1 rfl
    go_wp2_with fail
    refine (toPicture_x R0 hn0).mono ?_
    rintro e w4 ⟨gY2, rfl, Y2, hgY2, hb⟩
    replace R0 := R0.bl hb
    replace S := S.bl hb
    replace A0 := A0.bl hb
    replace Y1 := Y1.bl hb
    replace B1 := B1.bl hb
    have z_4 := hb.size
    (try simp only [World.size_alloc, World.size_setCell, szDrew] at z_4)
    have lY2 := Y2.lt
    (try simp only [World.size_alloc, World.size_setCell, szDrew] at hgY2)
    clear hb
    clear kA0_0 kB1_0 kB1_1
    have kA0_0 := A0.cell 0 rfl
    have kB1_0 := B1.cell 0 rfl
    have kB1_1 := B1.cell 1 rfl
    replace R0 := R0.bl (bl_alloc w4 (.cells #[.slice (some ⟨gY2, 0, none⟩) ss.length ss.length] 38))
    replace S := S.bl (bl_alloc w4 (.cells #[.slice (some ⟨gY2, 0, none⟩) ss.length ss.length] 38))
    replace A0 := A0.bl (bl_alloc w4 (.cells #[.slice (some ⟨gY2, 0, none⟩) ss.length ss.length] 38))
    replace Y1 := Y1.bl (bl_alloc w4 (.cells #[.slice (some ⟨gY2, 0, none⟩) ss.length ss.length] 38))
    replace B1 := B1.bl (bl_alloc w4 (.cells #[.slice (some ⟨gY2, 0, none⟩) ss.length ss.length] 38))
    replace Y2 := Y2.bl (bl_alloc w4 (.cells #[.slice (some ⟨gY2, 0, none⟩) ss.length ss.length] 38))
    have B2 := Blk.new w4 #[.slice (some ⟨gY2, 0, none⟩) ss.length ss.length] 38
    (try simp only [World.size_alloc] at B2)
    clear kA0_0 kB1_0 kB1_1
    have kA0_0 := A0.cell 0 rfl
    have kB1_0 := B1.cell 0 rfl
    have kB1_1 := B1.cell 1 rfl
    have kB2_0 := B2.cell 0 rfl
    go_wp2_with fail
    refine (iTreeOf_any _ _ ss _ hn0 hs0 Y2.rd).mono ?_
    rintro e w5 ⟨rfl, hb⟩
    replace R0 := R0.bl hb
    replace S := S.bl hb
    replace A0 := A0.bl hb
    replace Y1 := Y1.bl hb
    replace B1 := B1.bl hb
    replace Y2 := Y2.bl hb
    replace B2 := B2.bl hb
    have z_5 := hb.size
    (try simp only [World.size_alloc, World.size_setCell, szDrew] at z_5)
    clear hb
    clear kA0_0 kB1_0 kB1_1 kB2_0
    have kA0_0 := A0.cell 0 rfl
    have kB1_0 := B1.cell 0 rfl
    have kB1_1 := B1.cell 1 rfl
    have kB2_0 := B2.cell 0 rfl
    replace R0 := R0.bl (bl_alloc w5 (.cells #[.int .i64 (toN ss), .string (toS ss)] 26))
    replace S := S.bl (bl_alloc w5 (.cells #[.int .i64 (toN ss), .string (toS ss)] 26))
    replace A0 := A0.bl (bl_alloc w5 (.cells #[.int .i64 (toN ss), .string (toS ss)] 26))
    replace Y1 := Y1.bl (bl_alloc w5 (.cells #[.int .i64 (toN ss), .string (toS ss)] 26))
    replace B1 := B1.bl (bl_alloc w5 (.cells #[.int .i64 (toN ss), .string (toS ss)] 26))
    replace Y2 := Y2.bl (bl_alloc w5 (.cells #[.int .i64 (toN ss), .string (toS ss)] 26))
    replace B2 := B2.bl (bl_alloc w5 (.cells #[.int .i64 (toN ss), .string (toS ss)] 26))
    have B3 := Blk.new w5 #[.int .i64 (toN ss), .string (toS ss)] 26
    (try simp only [World.size_alloc] at B3)
    clear kA0_0 kB1_0 kB1_1 kB2_0
    have kA0_0 := A0.cell 0 rfl
    have kB1_0 := B1.cell 0 rfl
    have kB1_1 := B1.cell 1 rfl
    have kB2_0 := B2.cell 0 rfl
    have kB3_0 := B3.cell 0 rfl
    have kB3_1 := B3.cell 1 rfl
    go_wp2_with fail
    refine (eqTree_same _ _ _).mono ?_
    rintro e w6 ⟨rfl, hb⟩
    replace R0 := R0.bl hb
    replace S := S.bl hb
    replace A0 := A0.bl hb
    replace Y1 := Y1.bl hb
    replace B1 := B1.bl hb
    replace Y2 := Y2.bl hb
    replace B2 := B2.bl hb
    replace B3 := B3.bl hb
    have z_6 := hb.size
    (try simp only [World.size_alloc, World.size_setCell, szDrew] at z_6)
    clear hb
    clear kA0_0 kB1_0 kB1_1 kB2_0 kB3_0 kB3_1
    have kA0_0 := A0.cell 0 rfl
    have kB1_0 := B1.cell 0 rfl
    have kB1_1 := B1.cell 1 rfl
    have kB2_0 := B2.cell 0 rfl
    have kB3_0 := B3.cell 0 rfl
    have kB3_1 := B3.cell 1 rfl
    have y_0 := bl_drew w6
    replace R0 := R0.bl y_0
    replace S := S.bl y_0
    replace A0 := A0.bl y_0
    replace Y1 := Y1.bl y_0
    replace B1 := B1.bl y_0
    replace Y2 := Y2.bl y_0
    replace B2 := B2.bl y_0
    replace B3 := B3.bl y_0
    clear y_0
    clear kA0_0 kB1_0 kB1_1 kB2_0 kB3_0 kB3_1
    have kB2_0 := B2.cell 0 rfl
    have kA0_0 := A0.cell 0 rfl
    go_wp2_with fail
    go_region_held3 (fun w' => w'.cell? ⟨w4.heap.size, 0, none⟩ = some (.slice (some ⟨gY2, 0, none⟩) ss.length ss.length) ∧ w'.cell? ⟨w.heap.size, 0, none⟩ = some (.slice p0 ss.length c0))
      (first | exact ⟨B2.cell 0 rfl, A0.cell 0 rfl⟩ | exact ⟨(B2.bl hb_7).cell 0 rfl, (A0.bl hb_7).cell 0 rfl⟩ | exact ⟨((B2.bl hb_7).bl hb_8).cell 0 rfl, ((A0.bl hb_7).bl hb_8).cell 0 rfl⟩)
      ((first | (go_at_call 22; with_reducible (refine (toPicture_x R0 hn0).mono ?_); rintro e w7 ⟨gY3, rfl, Y3, hgY3, hb_7⟩; have lY3 := Y3.lt) | (go_at_call 25; with_reducible (refine (eqPicture_same _ _ _ _ ss _ hn0 (Y2.bl hb_7).rd Y3.rd).mono ?_); rintro e w8 ⟨rfl, hb_8⟩)))
    replace R0 := R0.bl hb_7
    replace S := S.bl hb_7
    replace A0 := A0.bl hb_7
    replace Y1 := Y1.bl hb_7
    replace B1 := B1.bl hb_7
    replace Y2 := Y2.bl hb_7
    replace B2 := B2.bl hb_7
    replace B3 := B3.bl hb_7
    have z_7 := hb_7.size
    (try simp only [World.size_alloc, World.size_setCell, szDrew] at z_7)
    replace R0 := R0.bl hb_8
    replace S := S.bl hb_8
    replace A0 := A0.bl hb_8
    replace Y1 := Y1.bl hb_8
    replace B1 := B1.bl hb_8
    replace Y2 := Y2.bl hb_8
    replace B2 := B2.bl hb_8
    replace B3 := B3.bl hb_8
    replace Y3 := Y3.bl hb_8
    have z_8 := hb_8.size
    (try simp only [World.size_alloc, World.size_setCell, szDrew] at z_8)
    (try simp only [World.size_alloc, World.size_setCell, szDrew] at hgY3)
    clear hb_7 hb_8
    clear kB2_0 kA0_0
    have kA0_0 := A0.cell 0 rfl
    have kB1_0 := B1.cell 0 rfl
    have kB1_1 := B1.cell 1 rfl
    have kB2_0 := B2.cell 0 rfl
    have kB3_0 := B3.cell 0 rfl
    have kB3_1 := B3.cell 1 rfl
    clear kA0_0 kB1_0 kB1_1 kB2_0 kB3_0 kB3_1
    have kA0_0 := A0.cell 0 rfl
    have kB1_0 := B1.cell 0 rfl
    have kB1_1 := B1.cell 1 rfl
    have kB2_0 := B2.cell 0 rfl
    have kB3_0 := B3.cell 0 rfl
    have kB3_1 := B3.cell 1 rfl
    go_wp2
    go_ret
    exact ⟨rfl, S.below⟩
open Go.ChangeShapes Go.WideShapes Go.ChangeAt
open Go.ChangeMaps (open_string shut_string)

set_option maxRecDepth 100000 in
theorem lifted (os : Os) (started : os.Started) (H : Type) (enc : TypeId × Value → H) :
    ReturnsInHanded {} Try.checked os 5 .any (Rows.fnExactTreeOfSpec.pre6 enc Try.prog Try.f5 Rows.fnExactTreeOfRow.domain false) (Rows.fnExactTreeOfSpec.post enc Try.prog Try.f5 false true false false) := by
  refine returnsInHanded_of_change (C := Try.checked) own started (by kernel_rfl) Try.func5
    (ChangeSpec.witness6 (enc := enc) (C := Try.checked) false ⟨#[], #[.agg #[.slice none 0 0]], []⟩ 8 (by kernel_rfl) (by kernel_rfl) (by kernel_rfl) (by kernel_rfl)) ?_
  intro W base args ds gs before hval0 hW hcnd _
  have hval : ∀ (j : Nat) t v, Try.f5.params[j]? = some t → args[j]? = some v → Value.okWide Try.prog W .any base t v := hval0
  have hW' := hW
  obtain ⟨p, q, hA0, hV, rfl, hfz, hnd⟩ := hW
  have hA : DataW.TrodAll enc Try.prog W 0 (fun _ => true) true Try.f5.params.toList args.toList ds p := hA0
  rw [Try.params5] at hA hval
  obtain ⟨v0, vs0, d0, ds0, p0, q0, hargs, rfl, rfl, h0, r0⟩ := trodAll_cons hA
  obtain ⟨rfl, rfl, rfl⟩ := trodAll_nil r0
  obtain rfl : args = #[v0] := by cases args; simp_all
  obtain ⟨rfl, rfl⟩ := trodVars_none hV
  have t0 : ∀ x ∈ p0, x.block < W.heap.size := fun x hx => hW'.lt x (by simp [hx])
  have k0 := hval 0 34 v0 rfl rfl
  have m0 := h0
  obtain ⟨p0', c0', ss0', rfl, p0'n, p0's, p0'r⟩ := open_Picture k0 h0
  refine (walk p0' c0' ss0' W p0'n p0's p0'r).mono fun e W' ⟨he, hb⟩ => ?_
  subst he
  refine ⟨_, rfl, _, _, _, [], _, [], hW', trodAll_mk1 (shut_bool Try.underlying4 _), (trodAll_cons_mk (Below.trod laidOut (by kernel_rfl) (of_decide_eq_true (by kernel_rfl)) m0 hb t0) trodAll_mk0), rfl, hb.frame _, fun h => by cases h⟩

theorem over : Rows.fnExactTreeOfRow.holds Try.pinned (OpenSpec.ofChange Rows.fnExactTreeOfSpec) :=
  OpenClaim.holds_of_wide 5 Try.f5 rfl rfl rfl rfl rfl rfl rfl ⟨rfl, rfl, rfl, rfl, rfl⟩ rfl rfl rfl rfl rfl (by kernel_rfl) Try.func5 (by kernel_rfl)
    (of_decide_eq_true (by kernel_rfl)) (by unfold Func.isWrapper; first | (rw [if_pos (by decide +kernel)]; kernel_rfl) | (rw [if_neg (by decide +kernel)]; exact ⟨rfl, rfl⟩))
    (fun os started H enc _ => lifted os started H enc)

theorem proved : Rows.FnExactTreeOfSaid := over
#print axioms proved
end Go.Proofs.Ytnenogpagkepfaa.lawTreeOf
