/- The law of HullOfBorder: for every input the call returns true, and the inputs read as they did. -/
import Derived.Test.YtjplikkehhpomaaHuI
import Derived.Test.YtjplikkehhpomaaHuS
import Derived.Test.YtjplikkehhpomaaLawBd
import Derived.Test.YtjplikkehhpomaaOpen2
set_option linter.unusedVariables false
set_option linter.unusedSimpArgs false
namespace Go.Proofs.Ytjplikkehhpomaa.lawHullOfBorder
open Go.RowKit Go.Proofs.Ytjplikkehhpomaa
theorem hulB_len (x y : Int) (s : ByteArray) : (hulB x y s).length ≤ 1048576 := by
  unfold hulB
  split
  · rename_i h
    have bd := bdB_iff.1 h
    have h1 := hulR_len (cornN x y s s.size)
    have h2 := cornN_len x y s s.size
    have h3 := bd.hi
    omega
  · simp
theorem sHullB_any (x y : Int) (s : ByteArray) (w : World) (hs : s.size ≤ maxLen) (hsm : small (x, y)) :
    Calls Try.prog 13 #[.agg #[.int .i64 x, .int .i64 y, .string s]] w fun e w' => ∃ v, e = .returned (.tuple #[v, .bool (bdB x y s)]) ∧ OwnSpots w.heap.size w' v (hulB x y s) ∧ Below w.heap.size w w' := sHull_any x y s w hs hsm
set_option maxRecDepth 100000 in
set_option maxHeartbeats 4000000 in
theorem walk (x y : Int) (s : ByteArray) (w : World) (hb0' : -9223372036854775808 ≤ x ∧ x ≤ 9223372036854775807) (hc0' : -9223372036854775808 ≤ y ∧ y ≤ 9223372036854775807) (hd0' : s.size ≤ maxLen) :
    Calls Try.prog 4 #[.agg #[.int .i64 x, .int .i64 y, .string s]] w fun e w' => e = .returned (.bool true) ∧ Below w.heap.size w w' := by
  rcases Int.lt_or_le (1048576 - (s.size : Int)) 0 with z0 | z0
  · have S := Since.refl w
    replace S := S.bl (bl_alloc w (.cells #[.int .i64 x, .int .i64 y, .string s] 25))
    have A0 := Blk.new w #[.int .i64 x, .int .i64 y, .string s] 25
    go_enter Try.func4, Try.ntmps4
    have kA0_0 := A0.cell 0 rfl
    have kA0_1 := A0.cell 1 rfl
    have kA0_2 := A0.cell 2 rfl
    go_wp2_with fail
    refine (szBorder_any _ _ _ _ _ hd0' (by omega) (by omega)).mono ?_
    rw [if_pos (by omega)]
    rintro e w1 ⟨rfl, hb⟩
    replace S := S.bl hb
    replace A0 := A0.bl hb
    have z_1 := hb.size
    (try simp only [World.size_alloc, World.size_setCell, szDrew] at z_1)
    clear hb
    clear kA0_0 kA0_1 kA0_2
    have kA0_0 := A0.cell 0 rfl
    have kA0_1 := A0.cell 1 rfl
    have kA0_2 := A0.cell 2 rfl
    go_wp2
    go_ret
    exact ⟨rfl, S.below⟩
  · have hn0 : s.size ≤ 1048576 := by omega
    have zl0 : 1048576 - (s.size : Int) ≤ 1048576 := by omega
    have S := Since.refl w
    replace S := S.bl (bl_alloc w (.cells #[.int .i64 x, .int .i64 y, .string s] 25))
    have A0 := Blk.new w #[.int .i64 x, .int .i64 y, .string s] 25
    go_enter Try.func4, Try.ntmps4
    have kA0_0 := A0.cell 0 rfl
    have kA0_1 := A0.cell 1 rfl
    have kA0_2 := A0.cell 2 rfl
    go_wp2_with fail
    refine (szBorder_any _ _ _ _ _ hd0' (by omega) (by omega)).mono ?_
    rw [if_neg (by omega)]
    rintro e w1 ⟨rfl, hb⟩
    replace S := S.bl hb
    replace A0 := A0.bl hb
    have z_1 := hb.size
    (try simp only [World.size_alloc, World.size_setCell, szDrew] at z_1)
    clear hb
    clear kA0_0 kA0_1 kA0_2
    have kA0_0 := A0.cell 0 rfl
    have kA0_1 := A0.cell 1 rfl
    have kA0_2 := A0.cell 2 rfl
    go_wp2_with fail
    refine (toBorder_g _ _ _ _).mono ?_
    rintro e w2 ⟨rfl, hb⟩
    replace S := S.bl hb
    replace A0 := A0.bl hb
    have z_2 := hb.size
    (try simp only [World.size_alloc, World.size_setCell, szDrew] at z_2)
    clear hb
    clear kA0_0 kA0_1 kA0_2
    have kA0_0 := A0.cell 0 rfl
    have kA0_1 := A0.cell 1 rfl
    have kA0_2 := A0.cell 2 rfl
    go_wp2_with fail
    refine (sHullB_any x y s _ hd0' ⟨hb0', hc0'⟩).mono ?_
    rintro e w3 ⟨vW0, rfl, OW0, hb⟩
    replace S := S.bl hb
    replace A0 := A0.bl hb
    have z_3 := hb.size
    (try simp only [World.size_alloc, World.size_setCell, szDrew] at z_3)
    obtain ⟨pW0, dW0, rfl⟩ := OW0.form
    have bW0 := OW0.ge
    (try simp only [World.size_alloc, World.size_setCell, szDrew] at bW0)
    clear hb
    clear kA0_0 kA0_1 kA0_2
    have kA0_0 := A0.cell 0 rfl
    have kA0_1 := A0.cell 1 rfl
    have kA0_2 := A0.cell 2 rfl
    go_wp2_with fail
    refine (toBorder_g _ _ _ _).mono ?_
    rintro e w4 ⟨rfl, hb⟩
    replace S := S.bl hb
    replace A0 := A0.bl hb
    replace OW0 := OW0.bl hb
    have z_4 := hb.size
    (try simp only [World.size_alloc, World.size_setCell, szDrew] at z_4)
    clear hb
    clear kA0_0 kA0_1 kA0_2
    have kA0_0 := A0.cell 0 rfl
    have kA0_1 := A0.cell 1 rfl
    have kA0_2 := A0.cell 2 rfl
    go_wp2_with fail
    refine (hullOfBorder_any x y s _ hd0' ⟨hb0', hc0'⟩).mono ?_
    rintro e w5 ⟨vG0, rfl, OG0, hb⟩
    replace S := S.bl hb
    replace A0 := A0.bl hb
    replace OW0 := OW0.bl hb
    have z_5 := hb.size
    (try simp only [World.size_alloc, World.size_setCell, szDrew] at z_5)
    obtain ⟨pG0, dG0, rfl⟩ := OG0.form
    have bG0 := OG0.ge
    (try simp only [World.size_alloc, World.size_setCell, szDrew] at bG0)
    clear hb
    clear kA0_0 kA0_1 kA0_2
    have kA0_0 := A0.cell 0 rfl
    have kA0_1 := A0.cell 1 rfl
    have kA0_2 := A0.cell 2 rfl
    go_wp2_with fail
    refine (eqSpotS_same _ _ _ _ (hulB x y s) _ (hulB_len x y s) OG0.rd OW0.rd).mono ?_
    rintro e w6 ⟨rfl, hb⟩
    replace S := S.bl hb
    replace A0 := A0.bl hb
    replace OW0 := OW0.bl hb
    replace OG0 := OG0.bl hb
    have z_6 := hb.size
    (try simp only [World.size_alloc, World.size_setCell, szDrew] at z_6)
    clear hb
    clear kA0_0 kA0_1 kA0_2
    have kA0_0 := A0.cell 0 rfl
    have kA0_1 := A0.cell 1 rfl
    have kA0_2 := A0.cell 2 rfl
    go_wp2_with fail
    refine (markSpotS_g OG0 (hulB_len x y s)).mono ?_
    rintro e w7 ⟨rfl, M0, hb⟩
    replace S := S.grow hb (fun g e => by have := bG0 g e; omega)
    replace A0 := A0.grow hb (fun g e => by first | (have := bG0 g e; omega))
    replace OW0 := OW0.grow hb (fun k g hk e => by (have := bW0 k hk; have := bG0 g e; omega))
    have z_7 := hb.size
    (try simp only [World.size_alloc, World.size_setCell, szDrew] at z_7)
    clear hb
    clear kA0_0 kA0_1 kA0_2
    have kA0_0 := A0.cell 0 rfl
    have kA0_1 := A0.cell 1 rfl
    have kA0_2 := A0.cell 2 rfl
    go_wp2_with fail
    refine (heldSpotS_g _ M0 (hulB_len x y s)).mono ?_
    rintro e w8 ⟨rfl, hb⟩
    replace S := S.bl hb
    replace A0 := A0.bl hb
    replace OW0 := OW0.bl hb
    replace M0 := M0.bl hb
    have z_8 := hb.size
    (try simp only [World.size_alloc, World.size_setCell, szDrew] at z_8)
    clear hb
    clear kA0_0 kA0_1 kA0_2
    have kA0_0 := A0.cell 0 rfl
    have kA0_1 := A0.cell 1 rfl
    have kA0_2 := A0.cell 2 rfl
    go_wp2_with fail
    refine (toBorder_g _ _ _ _).mono ?_
    rintro e w9 ⟨rfl, hb⟩
    replace S := S.bl hb
    replace A0 := A0.bl hb
    replace OW0 := OW0.bl hb
    replace M0 := M0.bl hb
    have z_9 := hb.size
    (try simp only [World.size_alloc, World.size_setCell, szDrew] at z_9)
    clear hb
    clear kA0_0 kA0_1 kA0_2
    have kA0_0 := A0.cell 0 rfl
    have kA0_1 := A0.cell 1 rfl
    have kA0_2 := A0.cell 2 rfl
    go_wp2_with fail
    refine (hullOfBorder_any x y s _ hd0' ⟨hb0', hc0'⟩).mono ?_
    rintro e w10 ⟨vH0, rfl, OH0, hb⟩
    replace S := S.bl hb
    replace A0 := A0.bl hb
    replace OW0 := OW0.bl hb
    replace M0 := M0.bl hb
    have z_10 := hb.size
    (try simp only [World.size_alloc, World.size_setCell, szDrew] at z_10)
    obtain ⟨pH0, dH0, rfl⟩ := OH0.form
    have bH0 := OH0.ge
    (try simp only [World.size_alloc, World.size_setCell, szDrew] at bH0)
    clear hb
    clear kA0_0 kA0_1 kA0_2
    have kA0_0 := A0.cell 0 rfl
    have kA0_1 := A0.cell 1 rfl
    have kA0_2 := A0.cell 2 rfl
    go_wp2_with fail
    refine (eqSpotS_same _ _ _ _ (hulB x y s) _ (hulB_len x y s) OH0.rd OW0.rd).mono ?_
    rintro e w11 ⟨rfl, hb⟩
    replace S := S.bl hb
    replace A0 := A0.bl hb
    replace OW0 := OW0.bl hb
    replace M0 := M0.bl hb
    replace OH0 := OH0.bl hb
    have z_11 := hb.size
    (try simp only [World.size_alloc, World.size_setCell, szDrew] at z_11)
    clear hb
    clear kA0_0 kA0_1 kA0_2
    have kA0_0 := A0.cell 0 rfl
    have kA0_1 := A0.cell 1 rfl
    have kA0_2 := A0.cell 2 rfl
    go_wp2_with fail
    refine (heldSpotS_g _ M0 (hulB_len x y s)).mono ?_
    rintro e w12 ⟨rfl, hb⟩
    replace S := S.bl hb
    replace A0 := A0.bl hb
    replace OW0 := OW0.bl hb
    replace M0 := M0.bl hb
    replace OH0 := OH0.bl hb
    have z_12 := hb.size
    (try simp only [World.size_alloc, World.size_setCell, szDrew] at z_12)
    clear hb
    clear kA0_0 kA0_1 kA0_2
    have kA0_0 := A0.cell 0 rfl
    have kA0_1 := A0.cell 1 rfl
    have kA0_2 := A0.cell 2 rfl
    clear kA0_0 kA0_1 kA0_2
    have kA0_0 := A0.cell 0 rfl
    have kA0_1 := A0.cell 1 rfl
    have kA0_2 := A0.cell 2 rfl
    go_wp2
    go_ret
    exact ⟨rfl, S.below⟩
open Go.ChangeShapes Go.WideShapes Go.ChangeAt
open Go.ChangeMaps (open_string shut_string)

set_option maxRecDepth 100000 in
theorem lifted (os : Os) (started : os.Started) (H : Type) (enc : TypeId × Value → H) :
    ReturnsInHanded {} Try.checked os 4 .any (Rows.fnExactHullOfBorderSpec.pre6 enc Try.prog Try.f4 Rows.fnExactHullOfBorderRow.domain false) (Rows.fnExactHullOfBorderSpec.post enc Try.prog Try.f4 false true false false) := by
  refine returnsInHanded_of_change (C := Try.checked) own started (by kernel_rfl) Try.func4
    (ChangeSpec.witness6 (enc := enc) (C := Try.checked) false ⟨#[], #[.agg #[.int .i64 0, .int .i64 0, .string ByteArray.empty]], []⟩ 8 (by kernel_rfl) (by kernel_rfl) (by kernel_rfl) (by kernel_rfl)) ?_
  intro W base args ds gs before hval0 hW hcnd _
  have hval : ∀ (j : Nat) t v, Try.f4.params[j]? = some t → args[j]? = some v → Value.okWide Try.prog W .any base t v := hval0
  have hW' := hW
  obtain ⟨p, q, hA0, hV, rfl, hfz, hnd⟩ := hW
  have hA : DataW.TrodAll enc Try.prog W 0 (fun _ => true) true Try.f4.params.toList args.toList ds p := hA0
  rw [Try.params4] at hA hval
  obtain ⟨v0, vs0, d0, ds0, p0, q0, hargs, rfl, rfl, h0, r0⟩ := trodAll_cons hA
  obtain ⟨rfl, rfl, rfl⟩ := trodAll_nil r0
  obtain rfl : args = #[v0] := by cases args; simp_all
  obtain ⟨rfl, rfl⟩ := trodVars_none hV
  have t0 : ∀ x ∈ p0, x.block < W.heap.size := fun x hx => hW'.lt x (by simp [hx])
  have k0 := hval 0 25 v0 rfl rfl
  have m0 := h0
  obtain ⟨x0', y0', s0', rfl, x0'w, y0'w, s0'w⟩ := open_Border k0 h0
  refine (walk x0' y0' s0' W x0'w y0'w s0'w).mono fun e W' ⟨he, hb⟩ => ?_
  subst he
  refine ⟨_, rfl, _, _, _, [], _, [], hW', trodAll_mk1 (shut_bool Try.underlying4 _), (trodAll_cons_mk (Below.trod laidOut (by kernel_rfl) (of_decide_eq_true (by kernel_rfl)) m0 hb t0) trodAll_mk0), rfl, hb.frame _, fun h => by cases h⟩

theorem over : Rows.fnExactHullOfBorderRow.holds Try.pinned (OpenSpec.ofChange Rows.fnExactHullOfBorderSpec) :=
  OpenClaim.holds_of_wide 4 Try.f4 rfl rfl rfl rfl rfl rfl rfl ⟨rfl, rfl, rfl, rfl, rfl⟩ rfl rfl rfl rfl rfl (by kernel_rfl) Try.func4 (by kernel_rfl)
    (of_decide_eq_true (by kernel_rfl)) (by unfold Func.isWrapper; first | (rw [if_pos (by decide +kernel)]; kernel_rfl) | (rw [if_neg (by decide +kernel)]; exact ⟨rfl, rfl⟩))
    (fun os started H enc _ => lifted os started H enc)

theorem proved : Rows.FnExactHullOfBorderSaid := over
#print axioms proved
end Go.Proofs.Ytjplikkehhpomaa.lawHullOfBorder
