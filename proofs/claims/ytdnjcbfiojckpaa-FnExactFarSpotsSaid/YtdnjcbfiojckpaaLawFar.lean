/- The law of FarSpots: for every input the call returns true, and the inputs read as they did. -/
import Derived.Test.YtdnjcbfiojckpaaFar
import Derived.Test.YtdnjcbfiojckpaaOpen
set_option linter.unusedVariables false
namespace Go.Proofs.Ytdnjcbfiojckpaa.lawFarSpots
open Go.RowKit Go.Proofs.Ytdnjcbfiojckpaa

theorem held4 {a b : Nat} {v0 v1 v2 v3 : Value} {w0 w w1 : World} (h : w.cell? ⟨a, 0, none⟩ = some v0 ∧ w.cell? ⟨a, 1, none⟩ = some v1 ∧ w.cell? ⟨b, 0, none⟩ = some v2 ∧ w.cell? ⟨b, 1, none⟩ = some v3 ∧ Since w0 w)
    (hb : Below w.heap.size w w1) : w1.cell? ⟨a, 0, none⟩ = some v0 ∧ w1.cell? ⟨a, 1, none⟩ = some v1 ∧ w1.cell? ⟨b, 0, none⟩ = some v2 ∧ w1.cell? ⟨b, 1, none⟩ = some v3 ∧ Since w0 w1 := by
  obtain ⟨h0, h1, h2, h3, h4⟩ := h
  have ha := World.block_lt_of_cell? _ _ h0
  have hb2 := World.block_lt_of_cell? _ _ h2
  exact ⟨(hb.cell (p := ⟨a, 0, none⟩) ha).trans h0, (hb.cell (p := ⟨a, 1, none⟩) ha).trans h1, (hb.cell (p := ⟨b, 0, none⟩) hb2).trans h2, (hb.cell (p := ⟨b, 1, none⟩) hb2).trans h3, h4.bl hb⟩

set_option maxHeartbeats 2000000 in
theorem walk (k ax ay bx b : Int) (w : World) (hk : -9223372036854775808 ≤ k ∧ k ≤ 9223372036854775807) (_h1 : -9223372036854775808 ≤ ax ∧ ax ≤ 9223372036854775807) (_h2 : -9223372036854775808 ≤ ay ∧ ay ≤ 9223372036854775807)
    (_h3 : -9223372036854775808 ≤ bx ∧ bx ≤ 9223372036854775807) (_h4 : -9223372036854775808 ≤ b ∧ b ≤ 9223372036854775807) :
    Calls Try.prog 6 #[.int .i64 k, .agg #[.int .i64 ax, .int .i64 ay], .agg #[.int .i64 bx, .int .i64 b]] w fun e w' => e = .returned (.bool true) ∧ Below w.heap.size w w' := by
  clear hk _h1 _h2 _h3 _h4
  have c1 := fun w => sFarSpots_any k ax ay bx b w
  have c2 := fun w => farSpots_any k ax ay bx b w
  generalize farSpotsZ k ax ay bx b = z at *
  generalize farSpotsB k ax ay bx b = q at *
  have C1 := Lib.hid c1; clear c1
  have C2 := Lib.hid c2; clear c2
  have X := (Blk.new w #[.int .i64 ax, .int .i64 ay] 28).alloc (.cells #[.int .i64 bx, .int .i64 b] 28)
  have Y := Blk.new (w.alloc (.cells #[.int .i64 ax, .int .i64 ay] 28)) #[.int .i64 bx, .int .i64 b] 28
  simp only [World.size_alloc] at Y
  have S : Since w ((w.alloc (.cells #[.int .i64 ax, .int .i64 ay] 28)).alloc (.cells #[.int .i64 bx, .int .i64 b] 28)) := ((Since.refl w).alloc _).alloc _
  have S1 : Since w ((w.alloc (.cells #[.int .i64 ax, .int .i64 ay] 28)).alloc (.cells #[.int .i64 bx, .int .i64 b] 28)).drew := ⟨S.below.drew⟩
  have x0 := X.cell 0 rfl
  have x1 := X.cell 1 rfl
  have y0 := Y.cell 0 rfl
  have y1 := Y.cell 1 rfl
  go_enter Try.func6, Try.ntmps6
  go_wp2_with fail
  go_region_held3 (fun w' => w'.cell? ⟨w.heap.size, 0, none⟩ = some (.int .i64 ax) ∧ w'.cell? ⟨w.heap.size, 1, none⟩ = some (.int .i64 ay) ∧ w'.cell? ⟨w.heap.size + 1, 0, none⟩ = some (.int .i64 bx) ∧ w'.cell? ⟨w.heap.size + 1, 1, none⟩ = some (.int .i64 b) ∧ Since w w')
    (first
      | exact ⟨x0, x1, y0, y1, S1⟩
      | exact held4 (by assumption) hb)
    ((first
      | (go_at_call 14; refine (toSpot_any _ _ _).mono ?_; rintro e w1 ⟨rfl, hb⟩)
      | (go_at_call 13; refine (C1.out _).mono ?_; rintro e w1 ⟨rfl, hb⟩)))
  obtain ⟨x0, x1, y0, y1, S⟩ : w1.cell? ⟨w.heap.size, 0, none⟩ = some (.int .i64 ax) ∧ w1.cell? ⟨w.heap.size, 1, none⟩ = some (.int .i64 ay) ∧ w1.cell? ⟨w.heap.size + 1, 0, none⟩ = some (.int .i64 bx) ∧ w1.cell? ⟨w.heap.size + 1, 1, none⟩ = some (.int .i64 b) ∧ Since w w1 := by assumption
  have S1 : Since w w1.drew := ⟨S.below.drew⟩
  go_wp2_with fail
  go_region_held3 (fun w' => w'.cell? ⟨w.heap.size, 0, none⟩ = some (.int .i64 ax) ∧ w'.cell? ⟨w.heap.size, 1, none⟩ = some (.int .i64 ay) ∧ w'.cell? ⟨w.heap.size + 1, 0, none⟩ = some (.int .i64 bx) ∧ w'.cell? ⟨w.heap.size + 1, 1, none⟩ = some (.int .i64 b) ∧ Since w w')
    (first
      | exact ⟨x0, x1, y0, y1, S1⟩
      | exact held4 (by assumption) hb)
    ((first
      | (go_at_call 14; refine (toSpot_any _ _ _).mono ?_; rintro e w2 ⟨rfl, hb⟩)
      | (go_at_call 15; refine (C2.out _).mono ?_; rintro e w2 ⟨rfl, hb⟩)))
  obtain ⟨_, _, _, _, S⟩ : w2.cell? ⟨w.heap.size, 0, none⟩ = some (.int .i64 ax) ∧ w2.cell? ⟨w.heap.size, 1, none⟩ = some (.int .i64 ay) ∧ w2.cell? ⟨w.heap.size + 1, 0, none⟩ = some (.int .i64 bx) ∧ w2.cell? ⟨w.heap.size + 1, 1, none⟩ = some (.int .i64 b) ∧ Since w w2 := by assumption
  go_wp2
  go_ret
  exact ⟨rfl, S.below⟩
open Go.ChangeShapes Go.WideShapes Go.ChangeAt
open Go.ChangeMaps (open_string shut_string)

set_option maxRecDepth 100000 in
theorem lifted (os : Os) (started : os.Started) (H : Type) (enc : TypeId × Value → H) :
    ReturnsInHanded {} Try.checked os 6 .any (Rows.fnExactFarSpotsSpec.pre6 enc Try.prog Try.f6 Rows.fnExactFarSpotsRow.domain false) (Rows.fnExactFarSpotsSpec.post enc Try.prog Try.f6 false true false false) := by
  refine returnsInHanded_of_change (C := Try.checked) own started (by kernel_rfl) Try.func6
    (ChangeSpec.witness6 (enc := enc) (C := Try.checked) false ⟨#[], #[.int .i64 0, .agg #[.int .i64 0, .int .i64 0], .agg #[.int .i64 0, .int .i64 0]], []⟩ 8 (by kernel_rfl) (by kernel_rfl) (by kernel_rfl) (by kernel_rfl)) ?_
  intro W base args ds gs before hval0 hW hcnd _
  have hval : ∀ (j : Nat) t v, Try.f6.params[j]? = some t → args[j]? = some v → Value.okWide Try.prog W .any base t v := hval0
  have hW' := hW
  obtain ⟨p, q, hA0, hV, rfl, hfz, hnd⟩ := hW
  have hA : DataW.TrodAll enc Try.prog W 0 (fun _ => true) true Try.f6.params.toList args.toList ds p := hA0
  rw [Try.params6] at hA hval
  obtain ⟨v0, vs0, d0, ds0, p0, q0, hargs, rfl, rfl, h0, r0⟩ := trodAll_cons hA
  obtain ⟨v1, vs1, d1, ds1, p1, q1, rfl, rfl, rfl, h1, r1⟩ := trodAll_cons r0
  obtain ⟨v2, vs2, d2, ds2, p2, q2, rfl, rfl, rfl, h2, r2⟩ := trodAll_cons r1
  obtain ⟨rfl, rfl, rfl⟩ := trodAll_nil r2
  obtain rfl : args = #[v0, v1, v2] := by cases args; simp_all
  obtain ⟨rfl, rfl⟩ := trodVars_none hV
  have t0 : ∀ x ∈ p0, x.block < W.heap.size := fun x hx => hW'.lt x (by simp [hx])
  have k0 := hval 0 2 v0 rfl rfl
  have m0 := h0
  obtain ⟨x0', rfl, rfl, rfl, x0'w⟩ := open_int Try.underlying2 k0 h0
  have t1 : ∀ x ∈ p1, x.block < W.heap.size := fun x hx => hW'.lt x (by simp [hx])
  have k1 := hval 1 28 v1 rfl rfl
  have m1 := h1
  obtain ⟨x1', y1', rfl, x1'w, y1'w⟩ := open_Spot k1 h1
  have t2 : ∀ x ∈ p2, x.block < W.heap.size := fun x hx => hW'.lt x (by simp [hx])
  have k2 := hval 2 28 v2 rfl rfl
  have m2 := h2
  obtain ⟨x2', y2', rfl, x2'w, y2'w⟩ := open_Spot k2 h2
  refine (walk x0' x1' y1' x2' y2' W (bounds_i64 x0'w) x1'w y1'w x2'w y2'w).mono fun e W' ⟨he, hb⟩ => ?_
  subst he
  refine ⟨_, rfl, _, _, _, [], _, [], hW', trodAll_mk1 (shut_bool Try.underlying4 _), (trodAll_cons_mk (Below.trod laidOut (by kernel_rfl) (of_decide_eq_true (by kernel_rfl)) m0 hb t0) (trodAll_cons_mk (Below.trod laidOut (by kernel_rfl) (of_decide_eq_true (by kernel_rfl)) m1 hb t1) (trodAll_cons_mk (Below.trod laidOut (by kernel_rfl) (of_decide_eq_true (by kernel_rfl)) m2 hb t2) trodAll_mk0))), rfl, hb.frame _, fun h => by cases h⟩

theorem over : Rows.fnExactFarSpotsRow.holds Try.pinned (OpenSpec.ofChange Rows.fnExactFarSpotsSpec) :=
  OpenClaim.holds_of_wide 6 Try.f6 rfl rfl rfl rfl rfl rfl rfl ⟨rfl, rfl, rfl, rfl, rfl⟩ rfl rfl rfl rfl rfl (by kernel_rfl) Try.func6 (by kernel_rfl)
    (of_decide_eq_true (by kernel_rfl)) (by unfold Func.isWrapper; first | (rw [if_pos (by decide +kernel)]; kernel_rfl) | (rw [if_neg (by decide +kernel)]; exact ⟨rfl, rfl⟩))
    (fun os started H enc _ => lifted os started H enc)

theorem proved : Rows.FnExactFarSpotsSaid := over
#print axioms proved
end Go.Proofs.Ytdnjcbfiojckpaa.lawFarSpots
