/- The law of BorderFrom: for every input the call returns true, and the inputs read as they did. -/
import Derived.Test.YtjplikkehhpomaaBfP
import Derived.Test.YtjplikkehhpomaaBfS
import Derived.Test.YtjplikkehhpomaaLawBd2
set_option linter.unusedVariables false
set_option linter.unusedSimpArgs false
namespace Go.Proofs.Ytjplikkehhpomaa.lawBorderFrom
open Go.RowKit Go.Proofs.Ytjplikkehhpomaa
set_option maxRecDepth 100000 in
set_option maxHeartbeats 4000000 in
theorem walk (p0 : Option Addr) (c0 : Nat) (l : List (Int × Int)) (w : World) (hn0' : l.length ≤ maxLen) (hs0' : ∀ s ∈ l, (-9223372036854775808 ≤ s.1 ∧ s.1 ≤ 9223372036854775807) ∧ (-9223372036854775808 ≤ s.2 ∧ s.2 ≤ 9223372036854775807)) (hr0' : Rd w p0 (l.length * 2) (spotAt l)) :
    Calls Try.prog 8 #[.slice p0 l.length c0] w fun e w' => e = .returned (.bool true) ∧ Below w.heap.size w w' := by
  rcases Int.lt_or_le (1048576 - (l.length : Int)) 0 with z0 | z0
  · have R0 := ArgRd.of_rd hr0'
    have S := Since.refl w
    go_enter Try.func8, Try.ntmps8
    go_wp2_with fail
    refine (szSpotS_any _ _ _ _ _ hn0' (by omega) (by omega)).mono ?_
    rw [if_pos (by omega)]
    rintro e w1 ⟨rfl, rfl⟩
    go_wp2
    go_ret
    exact ⟨rfl, S.below⟩
  · have hn0 : l.length ≤ 1048576 := by omega
    have zl0 : 1048576 - (l.length : Int) ≤ 1048576 := by omega
    have R0 := ArgRd.of_rd hr0'
    have S := Since.refl w
    go_enter Try.func8, Try.ntmps8
    go_wp2_with fail
    refine (szSpotS_any _ _ _ _ _ hn0' (by omega) (by omega)).mono ?_
    rw [if_neg (by omega)]
    rintro e w1 ⟨rfl, rfl⟩
    go_wp2_with fail
    refine (toSpotS_x R0 hn0).mono ?_
    rintro e w2 ⟨gY1, rfl, Y1, hgY1, hb⟩
    replace R0 := R0.bl hb
    replace S := S.bl hb
    have z_1 := hb.size
    (try simp only [World.size_alloc, World.size_setCell, szDrew] at z_1)
    have lY1 := Y1.lt
    (try simp only [World.size_alloc, World.size_setCell, szDrew] at hgY1)
    clear hb
    go_wp2_with fail
    refine (sBorderFrom_any _ _ l _ hn0 Y1.rd).mono ?_
    rintro e w3 ⟨rfl, hb⟩
    replace R0 := R0.bl hb
    replace S := S.bl hb
    replace Y1 := Y1.bl hb
    have z_2 := hb.size
    (try simp only [World.size_alloc, World.size_setCell, szDrew] at z_2)
    clear hb
    replace R0 := R0.bl (bl_alloc w3 (.cells #[.int .i64 (bfX l), .int .i64 (bfY l), .string (bfS l)] 30))
    replace S := S.bl (bl_alloc w3 (.cells #[.int .i64 (bfX l), .int .i64 (bfY l), .string (bfS l)] 30))
    replace Y1 := Y1.bl (bl_alloc w3 (.cells #[.int .i64 (bfX l), .int .i64 (bfY l), .string (bfS l)] 30))
    have B1 := Blk.new w3 #[.int .i64 (bfX l), .int .i64 (bfY l), .string (bfS l)] 30
    (try simp only [World.size_alloc] at B1)
    have kB1_0 := B1.cell 0 rfl
    have kB1_1 := B1.cell 1 rfl
    have kB1_2 := B1.cell 2 rfl
    go_wp2_with fail
    refine (toSpotS_x R0 hn0).mono ?_
    rintro e w4 ⟨gY2, rfl, Y2, hgY2, hb⟩
    replace R0 := R0.bl hb
    replace S := S.bl hb
    replace Y1 := Y1.bl hb
    replace B1 := B1.bl hb
    have z_3 := hb.size
    (try simp only [World.size_alloc, World.size_setCell, szDrew] at z_3)
    have lY2 := Y2.lt
    (try simp only [World.size_alloc, World.size_setCell, szDrew] at hgY2)
    clear hb
    clear kB1_0 kB1_1 kB1_2
    have kB1_0 := B1.cell 0 rfl
    have kB1_1 := B1.cell 1 rfl
    have kB1_2 := B1.cell 2 rfl
    go_wp2_with fail
    refine (borderFrom_any _ _ l _ hn0 Y2.rd).mono ?_
    rintro e w5 ⟨rfl, hb⟩
    replace R0 := R0.bl hb
    replace S := S.bl hb
    replace Y1 := Y1.bl hb
    replace B1 := B1.bl hb
    replace Y2 := Y2.bl hb
    have z_4 := hb.size
    (try simp only [World.size_alloc, World.size_setCell, szDrew] at z_4)
    clear hb
    clear kB1_0 kB1_1 kB1_2
    have kB1_0 := B1.cell 0 rfl
    have kB1_1 := B1.cell 1 rfl
    have kB1_2 := B1.cell 2 rfl
    replace R0 := R0.bl (bl_alloc w5 (.cells #[.int .i64 (bfX l), .int .i64 (bfY l), .string (bfS l)] 30))
    replace S := S.bl (bl_alloc w5 (.cells #[.int .i64 (bfX l), .int .i64 (bfY l), .string (bfS l)] 30))
    replace Y1 := Y1.bl (bl_alloc w5 (.cells #[.int .i64 (bfX l), .int .i64 (bfY l), .string (bfS l)] 30))
    replace B1 := B1.bl (bl_alloc w5 (.cells #[.int .i64 (bfX l), .int .i64 (bfY l), .string (bfS l)] 30))
    replace Y2 := Y2.bl (bl_alloc w5 (.cells #[.int .i64 (bfX l), .int .i64 (bfY l), .string (bfS l)] 30))
    have B2 := Blk.new w5 #[.int .i64 (bfX l), .int .i64 (bfY l), .string (bfS l)] 30
    (try simp only [World.size_alloc] at B2)
    clear kB1_0 kB1_1 kB1_2
    have kB1_0 := B1.cell 0 rfl
    have kB1_1 := B1.cell 1 rfl
    have kB1_2 := B1.cell 2 rfl
    have kB2_0 := B2.cell 0 rfl
    have kB2_1 := B2.cell 1 rfl
    have kB2_2 := B2.cell 2 rfl
    go_wp2_with fail
    refine (eqBorder_same _ _ _ _).mono ?_
    rintro e w6 ⟨rfl, hb⟩
    replace R0 := R0.bl hb
    replace S := S.bl hb
    replace Y1 := Y1.bl hb
    replace B1 := B1.bl hb
    replace Y2 := Y2.bl hb
    replace B2 := B2.bl hb
    have z_5 := hb.size
    (try simp only [World.size_alloc, World.size_setCell, szDrew] at z_5)
    clear hb
    clear kB1_0 kB1_1 kB1_2 kB2_0 kB2_1 kB2_2
    have kB1_0 := B1.cell 0 rfl
    have kB1_1 := B1.cell 1 rfl
    have kB1_2 := B1.cell 2 rfl
    have kB2_0 := B2.cell 0 rfl
    have kB2_1 := B2.cell 1 rfl
    have kB2_2 := B2.cell 2 rfl
    go_wp2_with fail
    refine (toSpotS_x R0 hn0).mono ?_
    rintro e w7 ⟨gY3, rfl, Y3, hgY3, hb⟩
    replace R0 := R0.bl hb
    replace S := S.bl hb
    replace Y1 := Y1.bl hb
    replace B1 := B1.bl hb
    replace Y2 := Y2.bl hb
    replace B2 := B2.bl hb
    have z_6 := hb.size
    (try simp only [World.size_alloc, World.size_setCell, szDrew] at z_6)
    have lY3 := Y3.lt
    (try simp only [World.size_alloc, World.size_setCell, szDrew] at hgY3)
    clear hb
    clear kB1_0 kB1_1 kB1_2 kB2_0 kB2_1 kB2_2
    have kB1_0 := B1.cell 0 rfl
    have kB1_1 := B1.cell 1 rfl
    have kB1_2 := B1.cell 2 rfl
    have kB2_0 := B2.cell 0 rfl
    have kB2_1 := B2.cell 1 rfl
    have kB2_2 := B2.cell 2 rfl
    go_wp2_with fail
    refine (eqSpotS_same _ _ _ _ l _ hn0 Y2.rd Y3.rd).mono ?_
    rintro e w8 ⟨rfl, hb⟩
    replace R0 := R0.bl hb
    replace S := S.bl hb
    replace Y1 := Y1.bl hb
    replace B1 := B1.bl hb
    replace Y2 := Y2.bl hb
    replace B2 := B2.bl hb
    replace Y3 := Y3.bl hb
    have z_7 := hb.size
    (try simp only [World.size_alloc, World.size_setCell, szDrew] at z_7)
    clear hb
    clear kB1_0 kB1_1 kB1_2 kB2_0 kB2_1 kB2_2
    have kB1_0 := B1.cell 0 rfl
    have kB1_1 := B1.cell 1 rfl
    have kB1_2 := B1.cell 2 rfl
    have kB2_0 := B2.cell 0 rfl
    have kB2_1 := B2.cell 1 rfl
    have kB2_2 := B2.cell 2 rfl
    clear kB1_0 kB1_1 kB1_2 kB2_0 kB2_1 kB2_2
    have kB1_0 := B1.cell 0 rfl
    have kB1_1 := B1.cell 1 rfl
    have kB1_2 := B1.cell 2 rfl
    have kB2_0 := B2.cell 0 rfl
    have kB2_1 := B2.cell 1 rfl
    have kB2_2 := B2.cell 2 rfl
    go_wp2
    go_ret
    exact ⟨rfl, S.below⟩
open Go.ChangeShapes Go.WideShapes Go.ChangeAt
open Go.ChangeMaps (open_string shut_string)

set_option maxRecDepth 100000 in
theorem lifted (os : Os) (started : os.Started) (H : Type) (enc : TypeId × Value → H) :
    ReturnsInHanded {} Try.checked os 8 .any (Rows.fnExactBorderFromSpec.pre6 enc Try.prog Try.f8 Rows.fnExactBorderFromRow.domain false) (Rows.fnExactBorderFromSpec.post enc Try.prog Try.f8 false true false false) := by
  refine returnsInHanded_of_change (C := Try.checked) own started (by kernel_rfl) Try.func8
    (ChangeSpec.witness6 (enc := enc) (C := Try.checked) false ⟨#[], #[.slice none 0 0], []⟩ 8 (by kernel_rfl) (by kernel_rfl) (by kernel_rfl) (by kernel_rfl)) ?_
  intro W base args ds gs before hval0 hW hcnd _
  have hval : ∀ (j : Nat) t v, Try.f8.params[j]? = some t → args[j]? = some v → Value.okWide Try.prog W .any base t v := hval0
  have hW' := hW
  obtain ⟨p, q, hA0, hV, rfl, hfz, hnd⟩ := hW
  have hA : DataW.TrodAll enc Try.prog W 0 (fun _ => true) true Try.f8.params.toList args.toList ds p := hA0
  rw [Try.params8] at hA hval
  obtain ⟨v0, vs0, d0, ds0, p0, q0, hargs, rfl, rfl, h0, r0⟩ := trodAll_cons hA
  obtain ⟨rfl, rfl, rfl⟩ := trodAll_nil r0
  obtain rfl : args = #[v0] := by cases args; simp_all
  obtain ⟨rfl, rfl⟩ := trodVars_none hV
  have t0 : ∀ x ∈ p0, x.block < W.heap.size := fun x hx => hW'.lt x (by simp [hx])
  have k0 := hval 0 40 v0 rfl rfl
  have m0 := h0
  obtain ⟨p0', c0', l0', rfl, p0'n, p0's, p0'r⟩ := open_Spots k0 h0
  refine (walk p0' c0' l0' W p0'n p0's p0'r).mono fun e W' ⟨he, hb⟩ => ?_
  subst he
  refine ⟨_, rfl, _, _, _, [], _, [], hW', trodAll_mk1 (shut_bool Try.underlying4 _), (trodAll_cons_mk (Below.trod laidOut (by kernel_rfl) (of_decide_eq_true (by kernel_rfl)) m0 hb t0) trodAll_mk0), rfl, hb.frame _, fun h => by cases h⟩

theorem over : Rows.fnExactBorderFromRow.holds Try.pinned (OpenSpec.ofChange Rows.fnExactBorderFromSpec) :=
  OpenClaim.holds_of_wide 8 Try.f8 rfl rfl rfl rfl rfl rfl rfl ⟨rfl, rfl, rfl, rfl, rfl⟩ rfl rfl rfl rfl rfl (by kernel_rfl) Try.func8 (by kernel_rfl)
    (of_decide_eq_true (by kernel_rfl)) (by unfold Func.isWrapper; first | (rw [if_pos (by decide +kernel)]; kernel_rfl) | (rw [if_neg (by decide +kernel)]; exact ⟨rfl, rfl⟩))
    (fun os started H enc _ => lifted os started H enc)

theorem proved : Rows.FnExactBorderFromSaid := over
#print axioms proved
end Go.Proofs.Ytjplikkehhpomaa.lawBorderFrom
