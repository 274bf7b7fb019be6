/- The law of ValidPicture: for every input the call returns true, and the input reads as it did. -/
import Derived.Test.YtdnjcbfiojckpaaImgOf
import Derived.Test.YtdnjcbfiojckpaaSpecPic
import Derived.Test.YtdnjcbfiojckpaaOpen
set_option linter.unusedVariables false
namespace Go.Proofs.Ytdnjcbfiojckpaa.lawValidPicture
open Go.RowKit Go.Proofs.Ytdnjcbfiojckpaa

set_option maxHeartbeats 1000000 in
theorem walk (p : Option Addr) (c : Nat) (ss : List ByteArray) (w : World) (hn0 : ss.length ≤ maxLen) (hs0 : ∀ s ∈ ss, s.size ≤ maxLen) (hr : Rd w p ss.length (strAt ss)) :
    Calls Try.prog 7 #[.agg #[.slice p ss.length c]] w fun e w' => e = .returned (.bool true) ∧ Below w.heap.size w w' := by
  have L0 := LawP.start (c := c) hr 35
  rcases Int.lt_or_le (szS ss 1048576) 0 with hz | hz
  rotate_left
  · have hok := szS_ok (by omega) hz
    have hn : ss.length ≤ 1048576 := by have := hok.1; omega
    have hs : ∀ s ∈ ss, s.size ≤ 1048576 := fun s h => by have := hok.2 s h; omega
    have hz' : ¬ szS ss 1048576 < 0 := by omega
    go_enter Try.func7, Try.ntmps7
    go_wp2_with fail
    refine (szPicture_any p c ss _ _ hn0 hs0 (by omega) (by omega) L0.rd).mono ?_
    rw [if_pos hz]
    rintro e w1 ⟨rfl, hb1⟩
    have L1 := L0.step hb1
    have b1 := L1.box
    clear hb1 L0
    go_wp2_with fail
    refine (toPicture_any p c ss _ hn L1.rd).mono ?_
    rintro e w2 ⟨g2, rfl, hg2, hrow2, hb2⟩
    have L2 := L1.step hb2
    clear hb2 L1 b1
    go_wp2_with fail
    refine (sValidPicture_any _ _ ss _ hn hs (Rd.of_row hrow2 (Nat.le_refl _))).mono ?_
    rintro e w3 ⟨rfl, hb3⟩
    have L3 := L2.step hb3
    have b3 := L3.box
    clear hb3 L2 hg2 hrow2
    go_wp2_with fail
    refine (toPicture_any p c ss _ hn L3.rd).mono ?_
    rintro e w4 ⟨g4, rfl, hg4, hrow4, hb4⟩
    have L4 := L3.step hb4
    have b4 := L4.box
    clear hb4 L3 b3
    go_wp2_with fail
    refine (validPicture_any _ _ ss _ hn hs (Rd.of_row (hrow4.alloc _) (Nat.le_refl _))).mono ?_
    rintro e w5 ⟨rfl, hb5⟩
    have L5 := (L4.alloc _).step hb5
    have b5 := L5.box
    have hrow5 := row_below (hrow4.alloc _) hb5 (hrow4.alloc _).lt
    have x5 := hb5.cell (p := ⟨w4.heap.size, 0, none⟩) (by simp)
    rw [World.cell?_alloc_new] at x5
    have hlt5 := hb5.size
    clear hb5 L4 b4 hrow4 hg4
    go_wp2_with fail
    have hlt6 : w4.heap.size < w5.heap.size := by simp at hlt5; omega
    go_region_held3 (fun w' => w'.cell? ⟨w4.heap.size, 0, none⟩ = some (.slice (some ⟨g4, 0, none⟩) ss.length ss.length) ∧ w'.cell? ⟨w.heap.size, 0, none⟩ = some (.slice p ss.length c))
      (first
        | go_keep
        | exact ⟨(hb6.cell (p := ⟨w4.heap.size, 0, none⟩) hlt6).trans x5, (hb6.cell (p := ⟨w.heap.size, 0, none⟩) L5.lt).trans b5⟩
        | exact ⟨(hb7.cell (p := ⟨w4.heap.size, 0, none⟩) (Nat.lt_of_lt_of_le hlt6 hb6.size)).trans ((hb6.cell (p := ⟨w4.heap.size, 0, none⟩) hlt6).trans x5), (hb7.cell (p := ⟨w.heap.size, 0, none⟩) (Nat.lt_of_lt_of_le L5.lt hb6.size)).trans ((hb6.cell (p := ⟨w.heap.size, 0, none⟩) L5.lt).trans b5)⟩)
      ((first
        | (go_at_call 18; refine (toPicture_any p c ss _ hn (L5.drewN 1).rd).mono ?_; rintro e w6 ⟨g6, rfl, hg6, hrow6, hb6⟩)
        | (go_at_call 20; refine (eqPicture_any _ _ _ _ ss ss _ hn hn0 (Rd.of_row (row_below (w := w5.drewN 1) hrow5 hb6 hrow5.lt) (Nat.le_refl _)) (Rd.of_row hrow6 (Nat.le_refl _))).mono ?_; rintro e w7 ⟨rfl, hb7⟩)))
    go_wp2
    go_ret
    exact ⟨rfl, (((L5.drewN 1).step hb6).step hb7).below⟩
  · go_enter Try.func7, Try.ntmps7
    go_wp2_with fail
    refine (szPicture_any p c ss _ _ hn0 hs0 (by omega) (by omega) L0.rd).mono ?_
    rw [if_neg (by omega)]
    rintro e w1 ⟨rfl, hb1⟩
    have L1 := L0.step hb1
    clear hb1
    go_wp2
    go_ret
    exact ⟨rfl, L1.below⟩
open Go.ChangeShapes Go.WideShapes Go.ChangeAt
open Go.ChangeMaps (open_string shut_string)

set_option maxRecDepth 100000 in
theorem lifted (os : Os) (started : os.Started) (H : Type) (enc : TypeId × Value → H) :
    ReturnsInHanded {} Try.checked os 7 .any (Rows.fnExactValidPictureSpec.pre6 enc Try.prog Try.f7 Rows.fnExactValidPictureRow.domain false) (Rows.fnExactValidPictureSpec.post enc Try.prog Try.f7 false true false false) := by
  refine returnsInHanded_of_change (C := Try.checked) own started (by kernel_rfl) Try.func7
    (ChangeSpec.witness6 (enc := enc) (C := Try.checked) false ⟨#[], #[.agg #[.slice none 0 0]], []⟩ 8 (by kernel_rfl) (by kernel_rfl) (by kernel_rfl) (by kernel_rfl)) ?_
  intro W base args ds gs before hval0 hW hcnd _
  have hval : ∀ (j : Nat) t v, Try.f7.params[j]? = some t → args[j]? = some v → Value.okWide Try.prog W .any base t v := hval0
  have hW' := hW
  obtain ⟨p, q, hA0, hV, rfl, hfz, hnd⟩ := hW
  have hA : DataW.TrodAll enc Try.prog W 0 (fun _ => true) true Try.f7.params.toList args.toList ds p := hA0
  rw [Try.params7] at hA hval
  obtain ⟨v0, vs0, d0, ds0, p0, q0, hargs, rfl, rfl, h0, r0⟩ := trodAll_cons hA
  obtain ⟨rfl, rfl, rfl⟩ := trodAll_nil r0
  obtain rfl : args = #[v0] := by cases args; simp_all
  obtain ⟨rfl, rfl⟩ := trodVars_none hV
  have t0 : ∀ x ∈ p0, x.block < W.heap.size := fun x hx => hW'.lt x (by simp [hx])
  have k0 := hval 0 35 v0 rfl rfl
  have m0 := h0
  obtain ⟨p0', c0', ss0', rfl, p0'n, p0's, p0'r⟩ := open_Picture k0 h0
  refine (walk p0' c0' ss0' W p0'n p0's p0'r).mono fun e W' ⟨he, hb⟩ => ?_
  subst he
  refine ⟨_, rfl, _, _, _, [], _, [], hW', trodAll_mk1 (shut_bool Try.underlying4 _), (trodAll_cons_mk (Below.trod laidOut (by kernel_rfl) (of_decide_eq_true (by kernel_rfl)) m0 hb t0) trodAll_mk0), rfl, hb.frame _, fun h => by cases h⟩

theorem over : Rows.fnExactValidPictureRow.holds Try.pinned (OpenSpec.ofChange Rows.fnExactValidPictureSpec) :=
  OpenClaim.holds_of_wide 7 Try.f7 rfl rfl rfl rfl rfl rfl rfl ⟨rfl, rfl, rfl, rfl, rfl⟩ rfl rfl rfl rfl rfl (by kernel_rfl) Try.func7 (by kernel_rfl)
    (of_decide_eq_true (by kernel_rfl)) (by unfold Func.isWrapper; first | (rw [if_pos (by decide +kernel)]; kernel_rfl) | (rw [if_neg (by decide +kernel)]; exact ⟨rfl, rfl⟩))
    (fun os started H enc _ => lifted os started H enc)

theorem proved : Rows.FnExactValidPictureSaid := over
#print axioms proved
end Go.Proofs.Ytdnjcbfiojckpaa.lawValidPicture
