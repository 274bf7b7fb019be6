/- The law of RegionsOf: for every input the call returns true, and the inputs read as they did. -/
import Derived.Test.YtakoklldmdbphaaSpecRegions
import Derived.Test.YtakoklldmdbphaaLawKit2
import Derived.Test.YtakoklldmdbphaaOpen2
set_option linter.unusedVariables false
set_option linter.unusedSimpArgs false
namespace Go.Proofs.Ytakoklldmdbphaa.lawRegionsOf
open Go.RowKit Go.Proofs.Ytakoklldmdbphaa
theorem regL_ok (W H k : Int) (l : List (Int × Int)) : SSok (regL W H k l) := by
  unfold regL
  split
  · rename_i h
    simp only [regOk, sizeOkB, Bool.and_eq_true] at h
    have h1 := inB_true h.1.1
    have h2 := inB_true h.1.2
    have h3 : H.toNat * W.toNat ≤ 16 * 16 := Nat.mul_le_mul (by omega) (by omega)
    refine ⟨by rw [gridL_len]; omega, ?_, fun l' hl => by rw [gridL_mem hl]; omega⟩
    rw [gridL_len, gridL_lenTo _ _ _ _ (Nat.le_refl _)]
    omega
  · exact ⟨by simp, by simp [lenTo], by simp⟩
set_option maxRecDepth 100000 in
set_option maxHeartbeats 4000000 in
theorem walk (W : Int) (H : Int) (k : Int) (p3 : Option Addr) (c3 : Nat) (l : List (Int × Int)) (w : World) (hb0' : -9223372036854775808 ≤ W ∧ W ≤ 9223372036854775807) (hb1' : -9223372036854775808 ≤ H ∧ H ≤ 9223372036854775807) (hb2' : -9223372036854775808 ≤ k ∧ k ≤ 9223372036854775807) (hn3' : l.length ≤ maxLen) (hs3' : ∀ s ∈ l, (-9223372036854775808 ≤ s.1 ∧ s.1 ≤ 9223372036854775807) ∧ (-9223372036854775808 ≤ s.2 ∧ s.2 ≤ 9223372036854775807)) (hr3' : Rd w p3 (l.length * 2) (spotAt l)) :
    Calls Try.prog 8 #[.int .i64 W, .int .i64 H, .int .i64 k, .slice p3 l.length c3] w fun e w' => e = .returned (.bool true) ∧ Below w.heap.size w w' := by
  rcases Int.lt_or_le (1048576 - (l.length : Int)) 0 with z3 | z3
  · have R3 := ArgRd.of_rd hr3'
    have S := Since.refl w
    go_enter Try.func8, Try.ntmps8
    go_wp2_with fail
    refine (szSpotS_any _ _ _ _ _ hn3' (by omega) (by omega)).mono ?_
    rw [if_pos (by omega)]
    rintro e w1 ⟨rfl, rfl⟩
    go_wp2
    go_ret
    exact ⟨rfl, S.below⟩
  · have hn3 : l.length ≤ 1048576 := by omega
    have zl3 : 1048576 - (l.length : Int) ≤ 1048576 := by omega
    have R3 := ArgRd.of_rd hr3'
    have S := Since.refl w
    go_enter Try.func8, Try.ntmps8
    go_wp2_with fail
    refine (szSpotS_any _ _ _ _ _ hn3' (by omega) (by omega)).mono ?_
    rw [if_neg (by omega)]
    rintro e w1 ⟨rfl, rfl⟩
    go_wp2_with fail
    refine (toSpotS_x R3 hn3).mono ?_
    rintro e w2 ⟨gY1, rfl, Y1, hgY1, hb⟩
    replace R3 := R3.bl hb
    replace S := S.bl hb
    have z_1 := hb.size
    (try simp only [World.size_alloc, World.size_setCell, szDrew] at z_1)
    have lY1 := Y1.lt
    (try simp only [World.size_alloc, World.size_setCell, szDrew] at hgY1)
    clear hb
    go_wp2_with fail
    refine (sRegionsOf_any W H k _ _ l _ hn3 Y1.rd).mono ?_
    rintro e w3 ⟨vW0, rfl, OW0, hb⟩
    replace R3 := R3.bl hb
    replace S := S.bl hb
    replace Y1 := Y1.bl hb
    have z_2 := hb.size
    (try simp only [World.size_alloc, World.size_setCell, szDrew] at z_2)
    obtain ⟨pW0, dW0, rfl⟩ := OW0.form
    replace OW0 := OW0.cap
    clear hb
    go_wp2_with fail
    refine (toSpotS_x R3 hn3).mono ?_
    rintro e w4 ⟨gY2, rfl, Y2, hgY2, hb⟩
    replace R3 := R3.bl hb
    replace S := S.bl hb
    replace Y1 := Y1.bl hb
    replace OW0 := OW0.bl hb
    have z_3 := hb.size
    (try simp only [World.size_alloc, World.size_setCell, szDrew] at z_3)
    have lY2 := Y2.lt
    (try simp only [World.size_alloc, World.size_setCell, szDrew] at hgY2)
    clear hb
    go_wp2_with fail
    refine (regionsOf_any W H k _ _ l _ hn3 Y2.rd).mono ?_
    rintro e w5 ⟨vG0, rfl, OG0, hb⟩
    replace R3 := R3.bl hb
    replace S := S.bl hb
    replace Y1 := Y1.bl hb
    replace OW0 := OW0.bl hb
    replace Y2 := Y2.bl hb
    have z_4 := hb.size
    (try simp only [World.size_alloc, World.size_setCell, szDrew] at z_4)
    obtain ⟨pG0, dG0, rfl⟩ := OG0.form
    replace OG0 := OG0.cap
    clear hb
    go_wp2_with fail
    refine (eqInt64SS_g (regL_ok W H k l) OG0.rd OW0.rd).mono ?_
    rintro e w6 ⟨rfl, hb⟩
    replace R3 := R3.bl hb
    replace S := S.bl hb
    replace Y1 := Y1.bl hb
    replace OW0 := OW0.bl hb
    replace Y2 := Y2.bl hb
    replace OG0 := OG0.bl hb
    have z_5 := hb.size
    (try simp only [World.size_alloc, World.size_setCell, szDrew] at z_5)
    clear hb
    go_wp2_with fail
    refine (toSpotS_x R3 hn3).mono ?_
    rintro e w7 ⟨gY3, rfl, Y3, hgY3, hb⟩
    replace R3 := R3.bl hb
    replace S := S.bl hb
    replace Y1 := Y1.bl hb
    replace OW0 := OW0.bl hb
    replace Y2 := Y2.bl hb
    replace OG0 := OG0.bl hb
    have z_6 := hb.size
    (try simp only [World.size_alloc, World.size_setCell, szDrew] at z_6)
    have lY3 := Y3.lt
    (try simp only [World.size_alloc, World.size_setCell, szDrew] at hgY3)
    clear hb
    go_wp2_with fail
    refine (eqSpotS_same _ _ _ _ l _ hn3 Y2.rd Y3.rd).mono ?_
    rintro e w8 ⟨rfl, hb⟩
    replace R3 := R3.bl hb
    replace S := S.bl hb
    replace Y1 := Y1.bl hb
    replace OW0 := OW0.bl hb
    replace Y2 := Y2.bl hb
    replace OG0 := OG0.bl hb
    replace Y3 := Y3.bl hb
    have z_7 := hb.size
    (try simp only [World.size_alloc, World.size_setCell, szDrew] at z_7)
    clear hb
    go_wp2_with fail
    refine (markSpotS_x _ Y2 hn3 _ (by omega) (by omega)).mono ?_
    rintro e w9 ⟨rfl, hb⟩
    replace R3 := R3.grown hb (fun g e => by cases e; omega)
    replace S := S.grow hb (fun g e => by cases e; omega)
    replace Y1 := Y1.grow hb (fun g e => by cases e; omega)
    replace OW0 := OW0.grow hb (fun g e => by cases e; (try simp only [World.size_alloc, World.size_setCell, szDrew]); omega)
    replace OG0 := OG0.grow hb (fun g e => by cases e; (try simp only [World.size_alloc, World.size_setCell, szDrew]); omega)
    replace Y3 := Y3.grow hb (fun g e => by cases e; omega)
    have z_8 := hb.size
    (try simp only [World.size_alloc, World.size_setCell, szDrew] at z_8)
    clear hb
    go_wp2_with fail
    refine (eqInt64SS_g (regL_ok W H k l) OG0.rd OW0.rd).mono ?_
    rintro e w10 ⟨rfl, hb⟩
    replace R3 := R3.bl hb
    replace S := S.bl hb
    replace Y1 := Y1.bl hb
    replace OW0 := OW0.bl hb
    replace OG0 := OG0.bl hb
    replace Y3 := Y3.bl hb
    have z_9 := hb.size
    (try simp only [World.size_alloc, World.size_setCell, szDrew] at z_9)
    clear hb
    go_wp2_with fail
    refine (markInt64SS_g OG0 (regL_ok W H k l) (by (try simp only [World.size_alloc, World.size_setCell, szDrew]); omega)).mono ?_
    rintro e w11 ⟨rfl, M0, hb⟩
    replace R3 := R3.under hb (by (try simp only [World.size_alloc, World.size_setCell, szDrew]); omega)
    replace S := S.under hb (by (try simp only [World.size_alloc, World.size_setCell, szDrew]); omega)
    replace Y1 := Y1.under hb (by (try simp only [World.size_alloc, World.size_setCell, szDrew]); omega)
    replace OW0 := OW0.under hb (by (try simp only [World.size_alloc, World.size_setCell, szDrew]); omega)
    clear Y3
    have z_10 := hb.size
    (try simp only [World.size_alloc, World.size_setCell, szDrew] at z_10)
    clear hb
    go_wp2_with fail
    refine (heldInt64SS_s M0 (regL_ok W H k l)).mono ?_
    rintro e w12 ⟨rfl, hb⟩
    replace R3 := R3.bl hb
    replace S := S.bl hb
    replace Y1 := Y1.bl hb
    replace OW0 := OW0.bl hb
    replace M0 := M0.bl hb
    have z_11 := hb.size
    (try simp only [World.size_alloc, World.size_setCell, szDrew] at z_11)
    clear hb
    go_wp2_with fail
    refine (toSpotS_x R3 hn3).mono ?_
    rintro e w13 ⟨gY4, rfl, Y4, hgY4, hb⟩
    replace R3 := R3.bl hb
    replace S := S.bl hb
    replace Y1 := Y1.bl hb
    replace OW0 := OW0.bl hb
    replace M0 := M0.bl hb
    have z_12 := hb.size
    (try simp only [World.size_alloc, World.size_setCell, szDrew] at z_12)
    have lY4 := Y4.lt
    (try simp only [World.size_alloc, World.size_setCell, szDrew] at hgY4)
    clear hb
    go_wp2_with fail
    refine (regionsOf_any W H k _ _ l _ hn3 Y4.rd).mono ?_
    rintro e w14 ⟨vH0, rfl, OH0, hb⟩
    replace R3 := R3.bl hb
    replace S := S.bl hb
    replace Y1 := Y1.bl hb
    replace OW0 := OW0.bl hb
    replace M0 := M0.bl hb
    replace Y4 := Y4.bl hb
    have z_13 := hb.size
    (try simp only [World.size_alloc, World.size_setCell, szDrew] at z_13)
    obtain ⟨pH0, dH0, rfl⟩ := OH0.form
    replace OH0 := OH0.cap
    clear hb
    go_wp2_with fail
    refine (eqInt64SS_g (regL_ok W H k l) OH0.rd OW0.rd).mono ?_
    rintro e w15 ⟨rfl, hb⟩
    replace R3 := R3.bl hb
    replace S := S.bl hb
    replace Y1 := Y1.bl hb
    replace OW0 := OW0.bl hb
    replace M0 := M0.bl hb
    replace Y4 := Y4.bl hb
    replace OH0 := OH0.bl hb
    have z_14 := hb.size
    (try simp only [World.size_alloc, World.size_setCell, szDrew] at z_14)
    clear hb
    go_wp2_with fail
    refine (heldInt64SS_s M0 (regL_ok W H k l)).mono ?_
    rintro e w16 ⟨rfl, hb⟩
    replace R3 := R3.bl hb
    replace S := S.bl hb
    replace Y1 := Y1.bl hb
    replace OW0 := OW0.bl hb
    replace M0 := M0.bl hb
    replace Y4 := Y4.bl hb
    replace OH0 := OH0.bl hb
    have z_15 := hb.size
    (try simp only [World.size_alloc, World.size_setCell, szDrew] at z_15)
    clear hb
    go_wp2
    go_ret
    exact ⟨rfl, S.below⟩
open Go.ChangeShapes Go.WideShapes Go.ChangeAt
open Go.ChangeMaps (open_string shut_string)

set_option maxRecDepth 100000 in
theorem lifted (os : Os) (started : os.Started) (H : Type) (enc : TypeId × Value → H) :
    ReturnsInHanded {} Try.checked os 8 .any (Rows.fnExactRegionsOfSpec.pre6 enc Try.prog Try.f8 Rows.fnExactRegionsOfRow.domain false) (Rows.fnExactRegionsOfSpec.post enc Try.prog Try.f8 false true false false) := by
  refine returnsInHanded_of_change (C := Try.checked) own started (by kernel_rfl) Try.func8
    (ChangeSpec.witness6 (enc := enc) (C := Try.checked) false ⟨#[], #[.int .i64 0, .int .i64 0, .int .i64 0, .slice none 0 0], []⟩ 8 (by kernel_rfl) (by kernel_rfl) (by kernel_rfl) (by kernel_rfl)) ?_
  intro W base args ds gs before hval0 hW hcnd _
  have hval : ∀ (j : Nat) t v, Try.f8.params[j]? = some t → args[j]? = some v → Value.okWide Try.prog W .any base t v := hval0
  have hW' := hW
  obtain ⟨p, q, hA0, hV, rfl, hfz, hnd⟩ := hW
  have hA : DataW.TrodAll enc Try.prog W 0 (fun _ => true) true Try.f8.params.toList args.toList ds p := hA0
  rw [Try.params8] at hA hval
  obtain ⟨v0, vs0, d0, ds0, p0, q0, hargs, rfl, rfl, h0, r0⟩ := trodAll_cons hA
  obtain ⟨v1, vs1, d1, ds1, p1, q1, rfl, rfl, rfl, h1, r1⟩ := trodAll_cons r0
  obtain ⟨v2, vs2, d2, ds2, p2, q2, rfl, rfl, rfl, h2, r2⟩ := trodAll_cons r1
  obtain ⟨v3, vs3, d3, ds3, p3, q3, rfl, rfl, rfl, h3, r3⟩ := trodAll_cons r2
  obtain ⟨rfl, rfl, rfl⟩ := trodAll_nil r3
  obtain rfl : args = #[v0, v1, v2, v3] := by cases args; simp_all
  obtain ⟨rfl, rfl⟩ := trodVars_none hV
  have t0 : ∀ x ∈ p0, x.block < W.heap.size := fun x hx => hW'.lt x (by simp [hx])
  have k0 := hval 0 2 v0 rfl rfl
  have m0 := h0
  obtain ⟨x0', rfl, rfl, rfl, x0'w⟩ := open_int Try.underlying2 k0 h0
  have t1 : ∀ x ∈ p1, x.block < W.heap.size := fun x hx => hW'.lt x (by simp [hx])
  have k1 := hval 1 2 v1 rfl rfl
  have m1 := h1
  obtain ⟨x1', rfl, rfl, rfl, x1'w⟩ := open_int Try.underlying2 k1 h1
  have t2 : ∀ x ∈ p2, x.block < W.heap.size := fun x hx => hW'.lt x (by simp [hx])
  have k2 := hval 2 2 v2 rfl rfl
  have m2 := h2
  obtain ⟨x2', rfl, rfl, rfl, x2'w⟩ := open_int Try.underlying2 k2 h2
  have t3 : ∀ x ∈ p3, x.block < W.heap.size := fun x hx => hW'.lt x (by simp [hx])
  have k3 := hval 3 55 v3 rfl rfl
  have m3 := h3
  obtain ⟨p3', c3', l3', rfl, p3'n, p3's, p3'r⟩ := open_Spots k3 h3
  refine (walk x0' x1' x2' p3' c3' l3' W (bounds_i64 x0'w) (bounds_i64 x1'w) (bounds_i64 x2'w) p3'n p3's p3'r).mono fun e W' ⟨he, hb⟩ => ?_
  subst he
  refine ⟨_, rfl, _, _, _, [], _, [], hW', trodAll_mk1 (shut_bool Try.underlying4 _), (trodAll_cons_mk (Below.trod laidOut (by kernel_rfl) (of_decide_eq_true (by kernel_rfl)) m0 hb t0) (trodAll_cons_mk (Below.trod laidOut (by kernel_rfl) (of_decide_eq_true (by kernel_rfl)) m1 hb t1) (trodAll_cons_mk (Below.trod laidOut (by kernel_rfl) (of_decide_eq_true (by kernel_rfl)) m2 hb t2) (trodAll_cons_mk (Below.trod laidOut (by kernel_rfl) (of_decide_eq_true (by kernel_rfl)) m3 hb t3) trodAll_mk0)))), rfl, hb.frame _, fun h => by cases h⟩

theorem over : Rows.fnExactRegionsOfRow.holds Try.pinned (OpenSpec.ofChange Rows.fnExactRegionsOfSpec) :=
  OpenClaim.holds_of_wide 8 Try.f8 rfl rfl rfl rfl rfl rfl rfl ⟨rfl, rfl, rfl, rfl, rfl⟩ rfl rfl rfl rfl rfl (by kernel_rfl) Try.func8 (by kernel_rfl)
    (of_decide_eq_true (by kernel_rfl)) (by unfold Func.isWrapper; first | (rw [if_pos (by decide +kernel)]; kernel_rfl) | (rw [if_neg (by decide +kernel)]; exact ⟨rfl, rfl⟩))
    (fun os started H enc _ => lifted os started H enc)

theorem proved : Rows.FnExactRegionsOfSaid := over
#print axioms proved
end Go.Proofs.Ytakoklldmdbphaa.lawRegionsOf
