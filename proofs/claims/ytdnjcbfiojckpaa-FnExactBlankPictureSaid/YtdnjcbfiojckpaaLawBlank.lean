/- The law of BlankPicture: for every input the call returns true, and the inputs read as they did. -/
import Derived.Test.YtdnjcbfiojckpaaTold
import Derived.Test.YtdnjcbfiojckpaaOpen
set_option linter.unusedVariables false
namespace Go.Proofs.Ytdnjcbfiojckpaa.lawBlankPicture
open Go.RowKit Go.Proofs.Ytdnjcbfiojckpaa

set_option maxHeartbeats 2000000 in
theorem walk (W H : Int) (w : World) (hW : -9223372036854775808 ≤ W ∧ W ≤ 9223372036854775807) (hH : -9223372036854775808 ≤ H ∧ H ≤ 9223372036854775807) :
    Calls Try.prog 8 #[.int .i64 W, .int .i64 H] w fun e w' => e = .returned (.bool true) ∧ Below w.heap.size w w' := by
  clear hW hH
  obtain ⟨ss, ess⟩ : ∃ ss, (if sizeOkB W H then render W.toNat H.toNat (fun _ => false) else []) = ss := ⟨_, rfl⟩
  have hn : ss.length ≤ 1048576 := by
    rw [← ess]; split
    · rename_i h
      have hh : inB W 1 16 = true ∧ inB H 1 16 = true := by simpa [sizeOkB] using h
      have := inB_true hh.2
      rw [render_len]; omega
    · simp
  have hn2 : ss.length ≤ maxLen := by unfold maxLen; omega
  have c1 := fun w => sBlankPicture_any W H w
  have c2 := fun w => blankPicture_any W H w
  simp only [ess] at c1 c2
  generalize sizeOkB W H = b at *
  clear ess
  have C1 := Lib.hid c1; clear c1
  have C2 := Lib.hid c2; clear c2
  go_enter Try.func8, Try.ntmps8
  go_wp2_with fail
  refine (C1.out _).mono ?_
  rintro e w1 ⟨v0, rfl, O0, hb⟩
  have S := (Since.refl w).bl hb
  have hs1 := hb.size
  obtain ⟨p0, d0, rfl⟩ := O0.form
  clear hb
  go_wp2_with fail
  refine (C2.out _).mono ?_
  rintro e w2 ⟨v1, rfl, O1, hb⟩
  have hlt0 := O0.ge
  have X0 := (Box.new w1 (.slice p0 ss.length d0) 38).bl hb
  replace O0 := (O0.bl (bl_alloc _ _)).bl hb
  replace S := (S.alloc _).bl hb
  obtain ⟨p1, d1, rfl⟩ := O1.form
  have hge1 := O1.ge
  simp only [World.size_alloc] at hge1
  have hX0 := X0.lt
  replace O1 := O1.bl (bl_alloc _ (.cells #[.slice p1 ss.length d1] 38))
  replace O0 := O0.bl (bl_alloc _ (.cells #[.slice p1 ss.length d1] 38))
  have X1 := Box.new w2 (.slice p1 ss.length d1) 38
  replace X0 := X0.alloc (.cells #[.slice p1 ss.length d1] 38)
  replace S := S.alloc (.cells #[.slice p1 ss.length d1] 38)
  have x0 := X0.cell
  clear hb
  go_wp2_with fail
  refine (eqPicture_same _ _ _ _ ss _ hn O1.rd O0.rd).mono ?_
  rintro e w3 ⟨rfl, hb⟩
  replace O0 := O0.bl hb
  replace O1 := O1.bl hb
  replace X0 := X0.bl hb
  replace X1 := X1.bl hb
  replace S := S.bl hb
  have x1 := X1.cell
  have hX1 := hb.size
  simp only [World.size_alloc] at hX1
  clear hb x0
  go_wp2_with fail
  refine (markPicture_own O1 hn 1 (by omega) (by omega)).mono ?_
  rintro e w4 ⟨rfl, M1, hgr⟩
  have n0 : some w1.heap.size ≠ (Value.slice p1 ss.length d1).ownBlock := fun e => by have := hge1 _ e.symm; omega
  have n1 : some w2.heap.size ≠ (Value.slice p1 ss.length d1).ownBlock := fun e => by have := hge1 _ e.symm; omega
  replace X0 := X0.grown hgr n0
  replace X1 := X1.grown hgr n1
  replace O0 := O0.grown hgr (fun k hk e => by have := hlt0 k hk; have := hge1 k e.symm; omega)
  replace S : Since w w4 := ⟨S.below.grown hgr S.size (fun k hk => by have := hge1 k hk; have := O0.ge; omega)⟩
  have x1 := X1.cell
  clear hgr n0 n1 O1
  go_wp2_with fail
  refine (heldPicture_any _ _ _ 1 _ hn (by omega) (by omega) M1).mono ?_
  rintro e w5 ⟨rfl, hb⟩
  replace O0 := O0.bl hb
  replace M1 := M1.bl hb
  replace X0 := X0.bl hb
  replace X1 := X1.bl hb
  replace S := S.bl hb
  have hlt5 := O0.ge
  have x1 := X1.cell
  have hl1 := X1.lt
  clear hb
  go_wp2_with fail
  refine (C2.out _).mono ?_
  rintro e w6 ⟨v2, rfl, O2, hb⟩
  replace O0 := O0.bl hb
  replace M1 := M1.bl hb
  replace X0 := X0.bl hb
  replace X1 := X1.bl hb
  replace S := S.bl hb
  obtain ⟨p2, d2, rfl⟩ := O2.form
  replace O2 := O2.bl (bl_alloc _ (.cells #[.slice p2 ss.length d2] 38))
  replace O0 := O0.bl (bl_alloc _ (.cells #[.slice p2 ss.length d2] 38))
  replace X0 := X0.alloc (.cells #[.slice p2 ss.length d2] 38)
  replace X1 := X1.alloc (.cells #[.slice p2 ss.length d2] 38)
  replace M1 := M1.alloc (.cells #[.slice p2 ss.length d2] 38)
  replace S := S.alloc (.cells #[.slice p2 ss.length d2] 38)
  have x0 := X0.cell
  clear hb x1
  go_wp2_with fail
  refine (eqPicture_same _ _ _ _ ss _ hn O2.rd O0.rd).mono ?_
  rintro e w7 ⟨rfl, hb⟩
  replace M1 := M1.bl hb
  replace X1 := X1.bl hb
  replace S := S.bl hb
  have x1 := X1.cell
  clear hb x0
  go_wp2_with fail
  refine (heldPicture_any _ _ _ 1 _ hn (by omega) (by omega) M1).mono ?_
  rintro e w8 ⟨rfl, hb⟩
  replace S := S.bl hb
  clear hb x1
  go_wp2
  go_ret
  exact ⟨rfl, S.below⟩
open Go.ChangeShapes Go.WideShapes Go.ChangeAt
open Go.ChangeMaps (open_string shut_string)

set_option maxRecDepth 100000 in
theorem lifted (os : Os) (started : os.Started) (H : Type) (enc : TypeId × Value → H) :
    ReturnsInHanded {} Try.checked os 8 .any (Rows.fnExactBlankPictureSpec.pre6 enc Try.prog Try.f8 Rows.fnExactBlankPictureRow.domain false) (Rows.fnExactBlankPictureSpec.post enc Try.prog Try.f8 false true false false) := by
  refine returnsInHanded_of_change (C := Try.checked) own started (by kernel_rfl) Try.func8
    (ChangeSpec.witness6 (enc := enc) (C := Try.checked) false ⟨#[], #[.int .i64 0, .int .i64 0], []⟩ 8 (by kernel_rfl) (by kernel_rfl) (by kernel_rfl) (by kernel_rfl)) ?_
  intro W base args ds gs before hval0 hW hcnd _
  have hval : ∀ (j : Nat) t v, Try.f8.params[j]? = some t → args[j]? = some v → Value.okWide Try.prog W .any base t v := hval0
  have hW' := hW
  obtain ⟨p, q, hA0, hV, rfl, hfz, hnd⟩ := hW
  have hA : DataW.TrodAll enc Try.prog W 0 (fun _ => true) true Try.f8.params.toList args.toList ds p := hA0
  rw [Try.params8] at hA hval
  obtain ⟨v0, vs0, d0, ds0, p0, q0, hargs, rfl, rfl, h0, r0⟩ := trodAll_cons hA
  obtain ⟨v1, vs1, d1, ds1, p1, q1, rfl, rfl, rfl, h1, r1⟩ := trodAll_cons r0
  obtain ⟨rfl, rfl, rfl⟩ := trodAll_nil r1
  obtain rfl : args = #[v0, v1] := by cases args; simp_all
  obtain ⟨rfl, rfl⟩ := trodVars_none hV
  have t0 : ∀ x ∈ p0, x.block < W.heap.size := fun x hx => hW'.lt x (by simp [hx])
  have k0 := hval 0 2 v0 rfl rfl
  have m0 := h0
  obtain ⟨x0', rfl, rfl, rfl, x0'w⟩ := open_int Try.underlying2 k0 h0
  have t1 : ∀ x ∈ p1, x.block < W.heap.size := fun x hx => hW'.lt x (by simp [hx])
  have k1 := hval 1 2 v1 rfl rfl
  have m1 := h1
  obtain ⟨x1', rfl, rfl, rfl, x1'w⟩ := open_int Try.underlying2 k1 h1
  refine (walk x0' x1' W (bounds_i64 x0'w) (bounds_i64 x1'w)).mono fun e W' ⟨he, hb⟩ => ?_
  subst he
  refine ⟨_, rfl, _, _, _, [], _, [], hW', trodAll_mk1 (shut_bool Try.underlying4 _), (trodAll_cons_mk (Below.trod laidOut (by kernel_rfl) (of_decide_eq_true (by kernel_rfl)) m0 hb t0) (trodAll_cons_mk (Below.trod laidOut (by kernel_rfl) (of_decide_eq_true (by kernel_rfl)) m1 hb t1) trodAll_mk0)), rfl, hb.frame _, fun h => by cases h⟩

theorem over : Rows.fnExactBlankPictureRow.holds Try.pinned (OpenSpec.ofChange Rows.fnExactBlankPictureSpec) :=
  OpenClaim.holds_of_wide 8 Try.f8 rfl rfl rfl rfl rfl rfl rfl ⟨rfl, rfl, rfl, rfl, rfl⟩ rfl rfl rfl rfl rfl (by kernel_rfl) Try.func8 (by kernel_rfl)
    (of_decide_eq_true (by kernel_rfl)) (by unfold Func.isWrapper; first | (rw [if_pos (by decide +kernel)]; kernel_rfl) | (rw [if_neg (by decide +kernel)]; exact ⟨rfl, rfl⟩))
    (fun os started H enc _ => lifted os started H enc)

theorem proved : Rows.FnExactBlankPictureSaid := over
#print axioms proved
end Go.Proofs.Ytdnjcbfiojckpaa.lawBlankPicture
