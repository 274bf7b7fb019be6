/- The law of PictureOfDiscs: for every input the call returns true, and the inputs read as they did. -/
import Derived.Test.YtakoklldmdbphaaDiscS
import Derived.Test.YtakoklldmdbphaaDiscI
import Derived.Test.YtakoklldmdbphaaLawKit
import Derived.Test.YtakoklldmdbphaaDiscs
set_option linter.unusedVariables false
set_option linter.unusedSimpArgs false
namespace Go.Proofs.Ytakoklldmdbphaa.lawPictureOfDiscs
open Go.RowKit Go.Proofs.Ytakoklldmdbphaa
theorem dsP_len (W H k : Int) (l : List (Int × Int × Int)) : (dsP W H k l).length ≤ 1048576 := by
  unfold dsP
  split
  · rename_i h
    simp only [dsOk, sizeOkB, Bool.and_eq_true] at h
    have h2 := inB_true h.1.1.1.2
    rw [render_len]
    omega
  · simp
set_option maxRecDepth 100000 in
set_option maxHeartbeats 4000000 in
theorem walk (W : Int) (H : Int) (k : Int) (p3 : Option Addr) (c3 : Nat) (l : List (Int × Int × Int)) (w : World) (hb0' : -9223372036854775808 ≤ W ∧ W ≤ 9223372036854775807) (hb1' : -9223372036854775808 ≤ H ∧ H ≤ 9223372036854775807) (hb2' : -9223372036854775808 ≤ k ∧ k ≤ 9223372036854775807) (hn3' : l.length ≤ maxLen) (hs3' : ∀ s ∈ l, (-9223372036854775808 ≤ s.1 ∧ s.1 ≤ 9223372036854775807) ∧ (-9223372036854775808 ≤ s.2.1 ∧ s.2.1 ≤ 9223372036854775807) ∧ (-9223372036854775808 ≤ s.2.2 ∧ s.2.2 ≤ 9223372036854775807)) (hr3' : Rd w p3 (l.length * 3) (discAt l)) :
    Calls Try.prog 13 #[.int .i64 W, .int .i64 H, .int .i64 k, .slice p3 l.length c3] w fun e w' => e = .returned (.bool true) ∧ Below w.heap.size w w' := by
  rcases Int.lt_or_le (1048576 - (l.length : Int)) 0 with z3 | z3
  · have R3 := ArgRd.of_rd hr3'
    have S := Since.refl w
    go_enter Try.func13, Try.ntmps13
    go_wp2_with fail
    refine (szDiscS_any _ _ _ _ _ hn3' (by omega) (by omega)).mono ?_
    rw [if_pos (by omega)]
    rintro e w1 ⟨rfl, rfl⟩
    go_wp2
    go_ret
    exact ⟨rfl, S.below⟩
  · have hn3 : l.length ≤ 1048576 := by omega
    have zl3 : 1048576 - (l.length : Int) ≤ 1048576 := by omega
    have R3 := ArgRd.of_rd hr3'
    have S := Since.refl w
    go_enter Try.func13, Try.ntmps13
    go_wp2_with fail
    refine (szDiscS_any _ _ _ _ _ hn3' (by omega) (by omega)).mono ?_
    rw [if_neg (by omega)]
    rintro e w1 ⟨rfl, rfl⟩
    go_wp2_with fail
    refine (toDiscS_x R3 hn3).mono ?_
    rintro e w2 ⟨gY1, rfl, Y1, hgY1, hb⟩
    replace R3 := R3.bl hb
    replace S := S.bl hb
    have z_1 := hb.size
    (try simp only [World.size_alloc, World.size_setCell, szDrew] at z_1)
    have lY1 := Y1.lt
    (try simp only [World.size_alloc, World.size_setCell, szDrew] at hgY1)
    clear hb
    go_wp2_with fail
    refine (sPictureOfDiscs_any W H k _ _ l _ hn3 hb0' hb1' Y1.rd).mono ?_
    rintro e w3 ⟨vW0, rfl, OW0, hb⟩
    replace R3 := R3.bl hb
    replace S := S.bl hb
    replace Y1 := Y1.bl hb
    have z_2 := hb.size
    (try simp only [World.size_alloc, World.size_setCell, szDrew] at z_2)
    obtain ⟨pW0, dW0, rfl⟩ := OW0.form
    have bW0 := OW0.ge
    (try simp only [World.size_alloc, World.size_setCell, szDrew] at bW0)
    clear hb
    replace R3 := R3.bl (bl_alloc w3 (.cells #[.slice pW0 (dsP W H k l).length dW0] 30))
    replace S := S.bl (bl_alloc w3 (.cells #[.slice pW0 (dsP W H k l).length dW0] 30))
    replace Y1 := Y1.bl (bl_alloc w3 (.cells #[.slice pW0 (dsP W H k l).length dW0] 30))
    replace OW0 := OW0.bl (bl_alloc w3 (.cells #[.slice pW0 (dsP W H k l).length dW0] 30))
    have B1 := Blk.new w3 #[.slice pW0 (dsP W H k l).length dW0] 30
    (try simp only [World.size_alloc] at B1)
    have kB1_0 := B1.cell 0 rfl
    go_wp2_with fail
    refine (toDiscS_x R3 hn3).mono ?_
    rintro e w4 ⟨gY2, rfl, Y2, hgY2, hb⟩
    replace R3 := R3.bl hb
    replace S := S.bl hb
    replace Y1 := Y1.bl hb
    replace OW0 := OW0.bl hb
    replace B1 := B1.bl hb
    have z_3 := hb.size
    (try simp only [World.size_alloc, World.size_setCell, szDrew] at z_3)
    have lY2 := Y2.lt
    (try simp only [World.size_alloc, World.size_setCell, szDrew] at hgY2)
    clear hb
    clear kB1_0
    have kB1_0 := B1.cell 0 rfl
    go_wp2_with fail
    refine (pictureOfDiscs_any W H k _ _ l _ hn3 Y2.rd).mono ?_
    rintro e w5 ⟨vG0, rfl, OG0, hb⟩
    replace R3 := R3.bl hb
    replace S := S.bl hb
    replace Y1 := Y1.bl hb
    replace OW0 := OW0.bl hb
    replace B1 := B1.bl hb
    replace Y2 := Y2.bl hb
    have z_4 := hb.size
    (try simp only [World.size_alloc, World.size_setCell, szDrew] at z_4)
    obtain ⟨pG0, dG0, rfl⟩ := OG0.form
    have bG0 := OG0.ge
    (try simp only [World.size_alloc, World.size_setCell, szDrew] at bG0)
    clear hb
    clear kB1_0
    have kB1_0 := B1.cell 0 rfl
    replace R3 := R3.bl (bl_alloc w5 (.cells #[.slice pG0 (dsP W H k l).length dG0] 30))
    replace S := S.bl (bl_alloc w5 (.cells #[.slice pG0 (dsP W H k l).length dG0] 30))
    replace Y1 := Y1.bl (bl_alloc w5 (.cells #[.slice pG0 (dsP W H k l).length dG0] 30))
    replace OW0 := OW0.bl (bl_alloc w5 (.cells #[.slice pG0 (dsP W H k l).length dG0] 30))
    replace B1 := B1.bl (bl_alloc w5 (.cells #[.slice pG0 (dsP W H k l).length dG0] 30))
    replace Y2 := Y2.bl (bl_alloc w5 (.cells #[.slice pG0 (dsP W H k l).length dG0] 30))
    replace OG0 := OG0.bl (bl_alloc w5 (.cells #[.slice pG0 (dsP W H k l).length dG0] 30))
    have B2 := Blk.new w5 #[.slice pG0 (dsP W H k l).length dG0] 30
    (try simp only [World.size_alloc] at B2)
    clear kB1_0
    have kB1_0 := B1.cell 0 rfl
    have kB2_0 := B2.cell 0 rfl
    go_wp2_with fail
    refine (eqPicture_same _ _ _ _ (dsP W H k l) _ (dsP_len W H k l) OG0.rd OW0.rd).mono ?_
    rintro e w6 ⟨rfl, hb⟩
    replace R3 := R3.bl hb
    replace S := S.bl hb
    replace Y1 := Y1.bl hb
    replace OW0 := OW0.bl hb
    replace B1 := B1.bl hb
    replace Y2 := Y2.bl hb
    replace OG0 := OG0.bl hb
    replace B2 := B2.bl hb
    have z_5 := hb.size
    (try simp only [World.size_alloc, World.size_setCell, szDrew] at z_5)
    clear hb
    clear kB1_0 kB2_0
    have kB1_0 := B1.cell 0 rfl
    have kB2_0 := B2.cell 0 rfl
    go_wp2_with fail
    refine (toDiscS_x R3 hn3).mono ?_
    rintro e w7 ⟨gY3, rfl, Y3, hgY3, hb⟩
    replace R3 := R3.bl hb
    replace S := S.bl hb
    replace Y1 := Y1.bl hb
    replace OW0 := OW0.bl hb
    replace B1 := B1.bl hb
    replace Y2 := Y2.bl hb
    replace OG0 := OG0.bl hb
    replace B2 := B2.bl hb
    have z_6 := hb.size
    (try simp only [World.size_alloc, World.size_setCell, szDrew] at z_6)
    have lY3 := Y3.lt
    (try simp only [World.size_alloc, World.size_setCell, szDrew] at hgY3)
    clear hb
    clear kB1_0 kB2_0
    have kB1_0 := B1.cell 0 rfl
    have kB2_0 := B2.cell 0 rfl
    go_wp2_with fail
    refine (eqDiscS_same _ _ _ _ l _ hn3 Y2.rd Y3.rd).mono ?_
    rintro e w8 ⟨rfl, hb⟩
    replace R3 := R3.bl hb
    replace S := S.bl hb
    replace Y1 := Y1.bl hb
    replace OW0 := OW0.bl hb
    replace B1 := B1.bl hb
    replace Y2 := Y2.bl hb
    replace OG0 := OG0.bl hb
    replace B2 := B2.bl hb
    replace Y3 := Y3.bl hb
    have z_7 := hb.size
    (try simp only [World.size_alloc, World.size_setCell, szDrew] at z_7)
    clear hb
    clear kB1_0 kB2_0
    have kB1_0 := B1.cell 0 rfl
    have kB2_0 := B2.cell 0 rfl
    go_wp2_with fail
    refine (markDiscS_x _ Y2 hn3 _ (by omega) (by omega)).mono ?_
    rintro e w9 ⟨rfl, hb⟩
    replace R3 := R3.grown hb (fun g e => by cases e; omega)
    replace S := S.grow hb (fun g e => by cases e; omega)
    replace Y1 := Y1.grow hb (fun g e => by cases e; omega)
    replace OW0 := OW0.grow hb (fun k g hk e => by cases e; have := bW0 k hk; omega)
    replace B1 := B1.grow hb (fun g e => by cases e; omega)
    replace OG0 := OG0.grow hb (fun k g hk e => by cases e; have := bG0 k hk; omega)
    replace B2 := B2.grow hb (fun g e => by cases e; omega)
    replace Y3 := Y3.grow hb (fun g e => by cases e; omega)
    have z_8 := hb.size
    (try simp only [World.size_alloc, World.size_setCell, szDrew] at z_8)
    clear hb
    clear kB1_0 kB2_0
    have kB1_0 := B1.cell 0 rfl
    have kB2_0 := B2.cell 0 rfl
    go_wp2_with fail
    refine (eqPicture_same _ _ _ _ (dsP W H k l) _ (dsP_len W H k l) OG0.rd OW0.rd).mono ?_
    rintro e w10 ⟨rfl, hb⟩
    replace R3 := R3.bl hb
    replace S := S.bl hb
    replace Y1 := Y1.bl hb
    replace OW0 := OW0.bl hb
    replace B1 := B1.bl hb
    replace OG0 := OG0.bl hb
    replace B2 := B2.bl hb
    replace Y3 := Y3.bl hb
    have z_9 := hb.size
    (try simp only [World.size_alloc, World.size_setCell, szDrew] at z_9)
    clear hb
    clear kB1_0 kB2_0
    have kB1_0 := B1.cell 0 rfl
    have kB2_0 := B2.cell 0 rfl
    go_wp2_with fail
    refine (markPicture_g OG0 (dsP_len W H k l)).mono ?_
    rintro e w11 ⟨rfl, M0, hb⟩
    replace R3 := R3.grown hb (fun g e => by have := bG0 g e; omega)
    replace S := S.grow hb (fun g e => by have := bG0 g e; omega)
    replace Y1 := Y1.grow hb (fun g e => by first | (have := bG0 g e; omega))
    replace OW0 := OW0.grow hb (fun k g hk e => by have := bW0 k hk; have := bG0 g e; omega)
    replace B1 := B1.grow hb (fun g e => by first | (have := bG0 g e; omega))
    replace B2 := B2.grow hb (fun g e => by first | (have := bG0 g e; omega))
    replace Y3 := Y3.grow hb (fun g e => by first | (have := bG0 g e; omega))
    have z_10 := hb.size
    (try simp only [World.size_alloc, World.size_setCell, szDrew] at z_10)
    clear hb
    clear kB1_0 kB2_0
    have kB1_0 := B1.cell 0 rfl
    have kB2_0 := B2.cell 0 rfl
    go_wp2_with fail
    refine (heldPicture_g _ M0 (dsP_len W H k l)).mono ?_
    rintro e w12 ⟨rfl, hb⟩
    replace R3 := R3.bl hb
    replace S := S.bl hb
    replace Y1 := Y1.bl hb
    replace OW0 := OW0.bl hb
    replace B1 := B1.bl hb
    replace B2 := B2.bl hb
    replace Y3 := Y3.bl hb
    replace M0 := M0.bl hb
    have z_11 := hb.size
    (try simp only [World.size_alloc, World.size_setCell, szDrew] at z_11)
    clear hb
    clear kB1_0 kB2_0
    have kB1_0 := B1.cell 0 rfl
    have kB2_0 := B2.cell 0 rfl
    go_wp2_with fail
    refine (toDiscS_x R3 hn3).mono ?_
    rintro e w13 ⟨gY4, rfl, Y4, hgY4, hb⟩
    replace R3 := R3.bl hb
    replace S := S.bl hb
    replace Y1 := Y1.bl hb
    replace OW0 := OW0.bl hb
    replace B1 := B1.bl hb
    replace B2 := B2.bl hb
    replace Y3 := Y3.bl hb
    replace M0 := M0.bl hb
    have z_12 := hb.size
    (try simp only [World.size_alloc, World.size_setCell, szDrew] at z_12)
    have lY4 := Y4.lt
    (try simp only [World.size_alloc, World.size_setCell, szDrew] at hgY4)
    clear hb
    clear kB1_0 kB2_0
    have kB1_0 := B1.cell 0 rfl
    have kB2_0 := B2.cell 0 rfl
    go_wp2_with fail
    refine (pictureOfDiscs_any W H k _ _ l _ hn3 Y4.rd).mono ?_
    rintro e w14 ⟨vH0, rfl, OH0, hb⟩
    replace R3 := R3.bl hb
    replace S := S.bl hb
    replace Y1 := Y1.bl hb
    replace OW0 := OW0.bl hb
    replace B1 := B1.bl hb
    replace B2 := B2.bl hb
    replace Y3 := Y3.bl hb
    replace M0 := M0.bl hb
    replace Y4 := Y4.bl hb
    have z_13 := hb.size
    (try simp only [World.size_alloc, World.size_setCell, szDrew] at z_13)
    obtain ⟨pH0, dH0, rfl⟩ := OH0.form
    have bH0 := OH0.ge
    (try simp only [World.size_alloc, World.size_setCell, szDrew] at bH0)
    clear hb
    clear kB1_0 kB2_0
    have kB1_0 := B1.cell 0 rfl
    have kB2_0 := B2.cell 0 rfl
    replace R3 := R3.bl (bl_alloc w14 (.cells #[.slice pH0 (dsP W H k l).length dH0] 30))
    replace S := S.bl (bl_alloc w14 (.cells #[.slice pH0 (dsP W H k l).length dH0] 30))
    replace Y1 := Y1.bl (bl_alloc w14 (.cells #[.slice pH0 (dsP W H k l).length dH0] 30))
    replace OW0 := OW0.bl (bl_alloc w14 (.cells #[.slice pH0 (dsP W H k l).length dH0] 30))
    replace B1 := B1.bl (bl_alloc w14 (.cells #[.slice pH0 (dsP W H k l).length dH0] 30))
    replace B2 := B2.bl (bl_alloc w14 (.cells #[.slice pH0 (dsP W H k l).length dH0] 30))
    replace Y3 := Y3.bl (bl_alloc w14 (.cells #[.slice pH0 (dsP W H k l).length dH0] 30))
    replace M0 := M0.bl (bl_alloc w14 (.cells #[.slice pH0 (dsP W H k l).length dH0] 30))
    replace Y4 := Y4.bl (bl_alloc w14 (.cells #[.slice pH0 (dsP W H k l).length dH0] 30))
    replace OH0 := OH0.bl (bl_alloc w14 (.cells #[.slice pH0 (dsP W H k l).length dH0] 30))
    have B3 := Blk.new w14 #[.slice pH0 (dsP W H k l).length dH0] 30
    (try simp only [World.size_alloc] at B3)
    clear kB1_0 kB2_0
    have kB1_0 := B1.cell 0 rfl
    have kB2_0 := B2.cell 0 rfl
    have kB3_0 := B3.cell 0 rfl
    go_wp2_with fail
    refine (eqPicture_same _ _ _ _ (dsP W H k l) _ (dsP_len W H k l) OH0.rd OW0.rd).mono ?_
    rintro e w15 ⟨rfl, hb⟩
    replace R3 := R3.bl hb
    replace S := S.bl hb
    replace Y1 := Y1.bl hb
    replace OW0 := OW0.bl hb
    replace B1 := B1.bl hb
    replace B2 := B2.bl hb
    replace Y3 := Y3.bl hb
    replace M0 := M0.bl hb
    replace Y4 := Y4.bl hb
    replace OH0 := OH0.bl hb
    replace B3 := B3.bl hb
    have z_14 := hb.size
    (try simp only [World.size_alloc, World.size_setCell, szDrew] at z_14)
    clear hb
    clear kB1_0 kB2_0 kB3_0
    have kB1_0 := B1.cell 0 rfl
    have kB2_0 := B2.cell 0 rfl
    have kB3_0 := B3.cell 0 rfl
    go_wp2_with fail
    refine (heldPicture_g _ M0 (dsP_len W H k l)).mono ?_
    rintro e w16 ⟨rfl, hb⟩
    replace R3 := R3.bl hb
    replace S := S.bl hb
    replace Y1 := Y1.bl hb
    replace OW0 := OW0.bl hb
    replace B1 := B1.bl hb
    replace B2 := B2.bl hb
    replace Y3 := Y3.bl hb
    replace M0 := M0.bl hb
    replace Y4 := Y4.bl hb
    replace OH0 := OH0.bl hb
    replace B3 := B3.bl hb
    have z_15 := hb.size
    (try simp only [World.size_alloc, World.size_setCell, szDrew] at z_15)
    clear hb
    clear kB1_0 kB2_0 kB3_0
    have kB1_0 := B1.cell 0 rfl
    have kB2_0 := B2.cell 0 rfl
    have kB3_0 := B3.cell 0 rfl
    clear kB1_0 kB2_0 kB3_0
    have kB1_0 := B1.cell 0 rfl
    have kB2_0 := B2.cell 0 rfl
    have kB3_0 := B3.cell 0 rfl
    go_wp2
    go_ret
    exact ⟨rfl, S.below⟩
open Go.ChangeShapes Go.WideShapes Go.ChangeAt
open Go.ChangeMaps (open_string shut_string)

set_option maxRecDepth 100000 in
theorem lifted (os : Os) (started : os.Started) (H : Type) (enc : TypeId × Value → H) :
    ReturnsInHanded {} Try.checked os 13 .any (Rows.fnExactPictureOfDiscsSpec.pre6 enc Try.prog Try.f13 Rows.fnExactPictureOfDiscsRow.domain false) (Rows.fnExactPictureOfDiscsSpec.post enc Try.prog Try.f13 false true false false) := by
  refine returnsInHanded_of_change (C := Try.checked) own started (by kernel_rfl) Try.func13
    (ChangeSpec.witness6 (enc := enc) (C := Try.checked) false ⟨#[], #[.int .i64 0, .int .i64 0, .int .i64 0, .slice none 0 0], []⟩ 8 (by kernel_rfl) (by kernel_rfl) (by kernel_rfl) (by kernel_rfl)) ?_
  intro W base args ds gs before hval0 hW hcnd _
  have hval : ∀ (j : Nat) t v, Try.f13.params[j]? = some t → args[j]? = some v → Value.okWide Try.prog W .any base t v := hval0
  have hW' := hW
  obtain ⟨p, q, hA0, hV, rfl, hfz, hnd⟩ := hW
  have hA : DataW.TrodAll enc Try.prog W 0 (fun _ => true) true Try.f13.params.toList args.toList ds p := hA0
  rw [Try.params13] at hA hval
  obtain ⟨v0, vs0, d0, ds0, p0, q0, hargs, rfl, rfl, h0, r0⟩ := trodAll_cons hA
  obtain ⟨v1, vs1, d1, ds1, p1, q1, rfl, rfl, rfl, h1, r1⟩ := trodAll_cons r0
  obtain ⟨v2, vs2, d2, ds2, p2, q2, rfl, rfl, rfl, h2, r2⟩ := trodAll_cons r1
  obtain ⟨v3, vs3, d3, ds3, p3, q3, rfl, rfl, rfl, h3, r3⟩ := trodAll_cons r2
  obtain ⟨rfl, rfl, rfl⟩ := trodAll_nil r3
  obtain rfl : args = #[v0, v1, v2, v3] := by cases args; simp_all
  obtain ⟨rfl, rfl⟩ := trodVars_none hV
  have t0 : ∀ x ∈ p0, x.block < W.heap.size := fun x hx => hW'.lt x (by simp [hx])
  have k0 := hval 0 2 v0 rfl rfl
  have m0 := h0
  obtain ⟨x0', rfl, rfl, rfl, x0'w⟩ := open_int Try.underlying2 k0 h0
  have t1 : ∀ x ∈ p1, x.block < W.heap.size := fun x hx => hW'.lt x (by simp [hx])
  have k1 := hval 1 2 v1 rfl rfl
  have m1 := h1
  obtain ⟨x1', rfl, rfl, rfl, x1'w⟩ := open_int Try.underlying2 k1 h1
  have t2 : ∀ x ∈ p2, x.block < W.heap.size := fun x hx => hW'.lt x (by simp [hx])
  have k2 := hval 2 2 v2 rfl rfl
  have m2 := h2
  obtain ⟨x2', rfl, rfl, rfl, x2'w⟩ := open_int Try.underlying2 k2 h2
  have t3 : ∀ x ∈ p3, x.block < W.heap.size := fun x hx => hW'.lt x (by simp [hx])
  have k3 := hval 3 75 v3 rfl rfl
  have m3 := h3
  obtain ⟨p3', c3', l3', rfl, p3'n, p3's, p3'r⟩ := open_Discs k3 h3
  refine (walk x0' x1' x2' p3' c3' l3' W (bounds_i64 x0'w) (bounds_i64 x1'w) (bounds_i64 x2'w) p3'n p3's p3'r).mono fun e W' ⟨he, hb⟩ => ?_
  subst he
  refine ⟨_, rfl, _, _, _, [], _, [], hW', trodAll_mk1 (shut_bool Try.underlying4 _), (trodAll_cons_mk (Below.trod laidOut (by kernel_rfl) (of_decide_eq_true (by kernel_rfl)) m0 hb t0) (trodAll_cons_mk (Below.trod laidOut (by kernel_rfl) (of_decide_eq_true (by kernel_rfl)) m1 hb t1) (trodAll_cons_mk (Below.trod laidOut (by kernel_rfl) (of_decide_eq_true (by kernel_rfl)) m2 hb t2) (trodAll_cons_mk (Below.trod laidOut (by kernel_rfl) (of_decide_eq_true (by kernel_rfl)) m3 hb t3) trodAll_mk0)))), rfl, hb.frame _, fun h => by cases h⟩

theorem over : Rows.fnExactPictureOfDiscsRow.holds Try.pinned (OpenSpec.ofChange Rows.fnExactPictureOfDiscsSpec) :=
  OpenClaim.holds_of_wide 13 Try.f13 rfl rfl rfl rfl rfl rfl rfl ⟨rfl, rfl, rfl, rfl, rfl⟩ rfl rfl rfl rfl rfl (by kernel_rfl) Try.func13 (by kernel_rfl)
    (of_decide_eq_true (by kernel_rfl)) (by unfold Func.isWrapper; first | (rw [if_pos (by decide +kernel)]; kernel_rfl) | (rw [if_neg (by decide +kernel)]; exact ⟨rfl, rfl⟩))
    (fun os started H enc _ => lifted os started H enc)

theorem proved : Rows.FnExactPictureOfDiscsSaid := over
#print axioms proved
end Go.Proofs.Ytakoklldmdbphaa.lawPictureOfDiscs
