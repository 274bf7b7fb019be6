/- Contract of slices.Concat at two lists of corners. -/
import Derived.Test.YtjplikkehhpomaaHuRev
import Derived.Test.YtjplikkehhpomaaHuC
import Derived.Deep.AppendLies
set_option linter.unusedVariables false
set_option linter.unusedSimpArgs false
namespace Go.Proofs.Ytjplikkehhpomaa
open Go.RowKit

theorem grow_nil (m : Nat) (w : World) (hm : 0 < m) (hm2 : m ≤ 2097152) :
    Calls Try.prog 65 #[.slice none 0 0, .int .i64 m] w fun e w' => ∃ d, e = .returned (.slice (some ⟨w.heap.size, 0, none⟩) 0 d) ∧ OwnSpots w.heap.size w' (.slice (some ⟨w.heap.size, 0, none⟩) 0 d) [] ∧ Since w w' := by
  obtain ⟨i0, hi0, hz0, hz1, hz2⟩ := info_parts info_spot
  have h := Any8.slices_Grow_grow Try.laysGrow i0 (.agg #[.int .i64 0, .int .i64 0]) hi0 hz0 (by rw [hz1]; decide) none 0 0 m [] w (Nat.le_refl _) (by omega) (by rw [hz2]; omega) (by omega) (by simp) (fun _ => rfl) (fun a e => by cases e)
  refine Calls.mono h ?_
  rintro e w' ⟨rfl, rfl⟩
  have hg := grownCap_ge w (0 + m) 0 28
  have hx := grownCap_le_maxLen w (0 + m) 0 28 (by unfold maxLen; omega)
  refine ⟨_, rfl, ?_, ((Since.refl w).bl (bl_drew w)).alloc _⟩
  change OwnSpots _ _ (.slice (some ⟨w.heap.size, 0, none⟩) 0 (grownCap w (0 + m) 0 28)) _
  refine ⟨_, _, rfl, by simp [spotCells], .inr ⟨w.heap.size, grownCap w (0 + m) 0 28, _, rfl, Nat.le_refl _, heap_alloc_new w.drew _, Nat.zero_le _, hx, ?_, by simp [spotCells]⟩⟩
  rw [Nat.zero_add] at *
  simp [Builtin.zeroCells, Value.cells]
  change m * 2 + (grownCap w m 0 28 - m) * 2 = _
  omega
def totC (n1 n2 : Nat) : Nat → Nat
  | 0 => 0
  | 1 => n1
  | _ => n1 + n2
def catC (X Y : List (Int × Int)) : Nat → List (Int × Int)
  | 0 => []
  | 1 => X
  | _ => X ++ Y
theorem spot_news {w : World} {b o : Nat} {X : List (Int × Int)} (h : Rd w (some ⟨b, o, none⟩) (X.length * 2) (spotAt X)) : ∀ i u, (spotCells X)[i]? = some u → w.cell? ((⟨b, o, none⟩ : Addr).add i) = some u := by
  intro i u hu
  obtain ⟨hi, e⟩ := List.getElem?_eq_some_iff.1 hu
  have hi2 := hi
  rw [spotCells_len] at hi2
  rw [spotCells_at _ i hi] at e
  obtain ⟨_, _, eP, -, hc⟩ := h.at (k := 0) (by omega)
  cases eP
  have := hc i hi2
  rw [e] at this
  rw [Go.WideShapes.add_plain]
  exact this
theorem spot_ones (X : List (Int × Int)) : ∀ u ∈ spotCells X, u.oneCell' = true := by
  intro u hu
  obtain ⟨s, _, h⟩ := List.mem_flatMap.1 hu
  simp only [List.mem_cons, List.not_mem_nil, or_false] at h
  rcases h with rfl | rfl <;> rfl
theorem spotCells_app (X Y : List (Int × Int)) : spotCells (X ++ Y) = spotCells X ++ spotCells Y := by simp [spotCells]
/-- What is there behind k pieces. -/
structure CatRel (X Y : List (Int × Int)) (w wr : World) (v : Value) (k : Nat) : Prop where
  own : ∃ g d, v = .slice (some ⟨g, 0, none⟩) (catC X Y k).length d ∧ OwnSpots w.heap.size wr v (catC X Y k)
  since : Since w wr
set_option maxRecDepth 100000 in
set_option maxHeartbeats 8000000 in
theorem concat_any (b bx ox c1 bY oY c2 : Nat) (X Y : List (Int × Int)) (w : World) (B : Blk w b #[.slice (some ⟨bx, ox, none⟩) X.length c1, .slice (some ⟨bY, oY, none⟩) Y.length c2] 33)
    (hX : Rd w (some ⟨bx, ox, none⟩) (X.length * 2) (spotAt X)) (hY : Rd w (some ⟨bY, oY, none⟩) (Y.length * 2) (spotAt Y)) (h1 : 0 < X.length) (hl : X.length + Y.length ≤ 1048576) :
    Calls Try.prog 45 #[.slice (some ⟨b, 0, none⟩) 2 2] w fun e w' => ∃ g d, e = .returned (.slice (some ⟨g, 0, none⟩) (X ++ Y).length d) ∧ OwnSpots w.heap.size w' (.slice (some ⟨g, 0, none⟩) (X ++ Y).length d) (X ++ Y) ∧ Below w.heap.size w w' := by
  obtain ⟨n1, e1⟩ : ∃ n, X.length = n := ⟨_, rfl⟩
  obtain ⟨n2, e2⟩ : ∃ n, Y.length = n := ⟨_, rfl⟩
  have hX0 := hX
  have hY0 := hY
  rw [e1] at B hX h1 hl
  rw [e2] at B hY hl
  have k0 := B.cell 0 rfl
  have k1 := B.cell 1 rfl
  have hw1 : IntKind.i64.wrap (n1 : Int) = (n1 : Int) := IntWalk.i64_in _ (by omega)
  have hw2 : IntKind.i64.wrap ((n1 : Int) + (n2 : Int)) = (n1 : Int) + (n2 : Int) := IntWalk.i64_in _ (by omega)
  have hn1 : ¬ (n1 : Int) < 0 := by omega
  have hn2 : ¬ (n1 : Int) + (n2 : Int) < 0 := by omega
  have cg := grow_nil (n1 + n2) w (by omega) (by omega)
  have hlen : (X ++ Y).length = n1 + n2 := by rw [List.length_append, e1, e2]
  have HX := Lib.hid hX; clear hX
  have HY := Lib.hid hY; clear hY
  have HX0 := Lib.hid hX0; clear hX0
  have HY0 := Lib.hid hY0; clear hY0
  have Cg := Lib.hid cg; clear cg
  have E1 := Lib.hid e1; clear e1
  have E2 := Lib.hid e2; clear e2
  have Hlen := Lib.hid hlen; clear hlen
  go_enter Try.func45, Try.ntmps45
  go_wp2
  go_loopw [3, 11] (fun v i wr => ∃ k : Nat, k ≤ 2 ∧ i = .int .i64 k ∧ v = .int .i64 ((totC n1 n2 k : Nat) : Int) ∧ wr = w) (fun _ i _ => 2 - (intOf i).toNat)
  case atStart => exact ⟨0, by omega, rfl, rfl, rfl⟩
  case round =>
    obtain ⟨k, hk, rfl, rfl, hww⟩ := hrel
    have hww2 := hww.symm
    clear hww
    subst hww2
    have hk3 : k = 0 ∨ k = 1 ∨ k = 2 := by omega
    rcases hk3 with rfl | rfl | rfl
    · simp only [totC]
      go_wp2
      go_roundw
      case rel => exact ⟨1, by omega, rfl, by simp [totC]⟩
      case measure => simp [intOf]
    · simp only [totC]
      go_wp2
      go_roundw
      case rel => exact ⟨2, by omega, rfl, by simp [totC]⟩
      case measure => simp [intOf]
    · simp only [totC]
      go_wp2_with fail
      have hcast : (n1 : Int) + (n2 : Int) = ((n1 + n2 : Nat) : Int) := by omega
      rw [hcast]
      clear hcast
      refine Cg.out.mono ?_
      rintro e w1 ⟨d, rfl, O, S⟩
      have r0 : CatRel X Y w w1 (.slice (some ⟨w.heap.size, 0, none⟩) 0 d) 0 := ⟨⟨_, _, rfl, O⟩, S⟩
      have R0 := Lib.hid r0; clear r0
      clear O k0 k1
      go_wp2
      go_loopw [6, 27] (fun v i wx => ∃ k : Nat, k ≤ 2 ∧ i = .int .i64 k ∧ CatRel X Y w wx v k) (fun _ i _ => 2 - (intOf i).toNat)
      case atStart => exact ⟨0, by omega, rfl, R0.out⟩
      case round =>
        clear R0
        obtain ⟨k, hk, rfl, r⟩ := hrel
        have hk3 : k = 0 ∨ k = 1 ∨ k = 2 := by omega
        have S5 := r.since
        have B1 := B.bl S5.below
        have k0 := B1.cell 0 rfl
        have k1 := B1.cell 1 rfl
        have hsz := S5.size
        obtain ⟨g, d5, rfl, O⟩ := r.own
        obtain ⟨i0, hi0, hz0, hz1, hz2⟩ := info_parts info_spot
        have newX := spot_news (HX0.out.bl S5.below)
        have newY := spot_news (HY0.out.bl S5.below)
        have oneX := spot_ones X
        have oneY := spot_ones Y
        have lX : (spotCells X).length = n1 * 2 := by rw [spotCells_len, E1.out]
        have lY : (spotCells Y).length = n2 * 2 := by rw [spotCells_len, E2.out]
        clear r
        have NewX := Lib.hid newX; clear newX
        have NewY := Lib.hid newY; clear newY
        have OneX := Lib.hid oneX; clear oneX
        have OneY := Lib.hid oneY; clear oneY
        have LX := Lib.hid lX; clear lX
        have LY := Lib.hid lY; clear lY
        rcases hk3 with rfl | rfl | rfl
        · simp only [catC, List.length_nil] at O ⊢
          obtain ⟨p', c', hv, ho⟩ := O
          clear hv p' c'
          have ho2 := ho
          clear ho
          have Ho2 := Lib.hid ho2; clear ho2
          go_wp2_with (at_builtin; refine wpList_append_lies _ rfl _ _ 33 rfl w.heap.size 28 i0 _ 2 16 Try.underlying33 hi0 hz0 hz1 hz2 rfl (by decide) (.slice (some ⟨g, 0, none⟩) 0 d5) 0 _ rfl Ho2.out ⟨bx, ox, none⟩ n1 c1 (spotCells X) rfl LX.out NewX.out OneX.out h1 (by unfold maxLen; omega) (by omega) hsz _ rfl ?_; intro g' cap w2 hown2 hgr hat hlt2)
          have r3 : CatRel X Y w w2 (.slice (some ⟨g', 0, none⟩) n1 cap) 1 := by
            refine ⟨⟨g', cap, by rw [catC, E1.out], ⟨_, cap, by rw [catC, E1.out], ?_⟩⟩, ⟨below_own S5.below hgr (own_ge Ho2.out) hsz⟩⟩
            rw [catC, E1.out]
            have := hown2
            rw [Nat.zero_add] at this
            exact this
          clear hown2 hgr hat
          have R3 := Lib.hid r3; clear r3
          go_wp2
          go_roundw
          case rel => exact ⟨1, by omega, rfl, R3.out⟩
          case measure => simp [intOf]
        · simp only [catC, E1.out] at O ⊢
          have O9 := O
          obtain ⟨-, -, hnd, hdm, -⟩ := O.cells
          obtain ⟨p', c', hv, ho⟩ := O
          clear hv p' c'
          rw [E1.out] at ho
          by_cases h0 : n2 = 0
          · subst h0
            have r3 : CatRel X Y w wr (.slice (some ⟨g, 0, none⟩) n1 d5) 2 := by
              have hY0 : Y = [] := List.length_eq_zero_iff.1 E2.out
              have hxy : X ++ Y = X := by rw [hY0, List.append_nil]
              refine ⟨⟨g, d5, ?_, ?_⟩, S5⟩
              · rw [show catC X Y 2 = X ++ Y from rfl, hxy, E1.out]
              · rw [show catC X Y 2 = X ++ Y from rfl, hxy]
                exact O9
            clear ho O9
            have R3 := Lib.hid r3; clear r3
            go_wp2
            trace_state
            go_roundw
            case rel => exact ⟨2, by omega, rfl, R3.out⟩
            case measure => simp [intOf]
          · clear O9 hnd hdm
            have ho2 := ho
            clear ho
            have Ho2 := Lib.hid ho2; clear ho2
            go_wp2_with (at_builtin; refine wpList_append_lies _ rfl _ _ 33 rfl w.heap.size 28 i0 _ 2 16 Try.underlying33 hi0 hz0 hz1 hz2 rfl (by decide) (.slice (some ⟨g, 0, none⟩) n1 d5) n1 _ rfl Ho2.out ⟨bY, oY, none⟩ n2 c2 (spotCells Y) rfl LY.out NewY.out OneY.out (by omega) (by unfold maxLen; omega) (by omega) hsz _ rfl ?_; intro g' cap w2 hown2 hgr hat hlt2)
            have r3 : CatRel X Y w w2 (.slice (some ⟨g', 0, none⟩) (n1 + n2) cap) 2 := by
              refine ⟨⟨g', cap, by rw [catC, Hlen.out] <;> omega, ⟨_, cap, by rw [catC, Hlen.out] <;> omega, ?_⟩⟩, ⟨below_own S5.below hgr (own_ge Ho2.out) hsz⟩⟩
              rw [show catC X Y 2 = X ++ Y from rfl, Hlen.out, spotCells_app]
              exact hown2
            clear hown2 hgr hat
            have R3 := Lib.hid r3; clear r3
            go_wp2
            go_roundw
            case rel => exact ⟨2, by omega, rfl, R3.out⟩
            case measure => simp [intOf]
        · simp only [show catC X Y 2 = X ++ Y from rfl, Hlen.out] at O ⊢
          have o5 := O
          clear O
          have O5 := Lib.hid o5; clear o5
          go_wp2
          go_ret
          exact ⟨g, d5, by rw [Hlen.out]; rfl, by rw [Hlen.out]; exact O5.out, S5.below⟩
end Go.Proofs.Ytjplikkehhpomaa
