/- Contracts of the reference's searches in elements. -/
import Derived.Test.YtheakjbbfdcbaaaFacA
set_option linter.unusedVariables false
set_option linter.unusedSimpArgs false
namespace Go.Proofs.Ytheakjbbfdcbaaa
open Go.RowKit Go.Sort

set_option maxRecDepth 100000 in
set_option maxHeartbeats 8000000 in
theorem l03Has_any (xb : Nat) (p : Option Addr) (c : Nat) (l : List (Int × Int)) (x y : Int) (w : World) (hl : l.length ≤ 1048576) (hX : CellAt w xb 0 (.slice p l.length c)) (hr : Rd w p (l.length * 2) (spotAt l)) :
    Calls Try.prog 36 #[.pointer (some ⟨xb, 0, none⟩), .agg #[.int .i64 x, .int .i64 y]] w fun e w' => e = .returned (.bool (decide ((x, y) ∈ l))) ∧ Below w.heap.size w w' := by
  have S := (Since.refl w).alloc (.cells #[.int .i64 x, .int .i64 y] 45)
  have A := Blk.new w #[.int .i64 x, .int .i64 y] 45
  have hxl := hX.lt
  have HX := Lib.hid hX; clear hX
  go_enter Try.func36, Try.ntmps36
  go_wp2
  go_loopw [5] (fun i wr => ∃ k : Nat, k ≤ l.length ∧ i = .int .i64 k ∧ (∀ j, j < k → l.getD j (0, 0) ≠ (x, y)) ∧ Since w wr ∧ Blk wr w.heap.size #[.int .i64 x, .int .i64 y] 45) (fun i _ => l.length - (intOf i).toNat)
  case atStart => exact ⟨0, Nat.zero_le _, rfl, fun j h => absurd h (by omega), S, A⟩
  case round =>
    clear S A
    obtain ⟨k, hk, rfl, hno, S, A⟩ := hrel
    have hk0 : (0 : Int) ≤ (k : Int) := Int.natCast_nonneg _
    have x0 := (HX.out.bl S.below).out
    by_cases hlt : k < l.length
    · have hk1 : (k : Int) < (l.length : Int) := by omega
      obtain ⟨b, o, rfl, hbl, hc⟩ := (hr.bl S.below).at (k := k * 2) (by omega)
      have b0 := hc (k * 2) (by omega)
      have b1 := hc (k * 2 + 1) (by omega)
      rw [spotAt_x] at b0
      rw [spotAt_y, ← Nat.add_assoc] at b1
      have a0 := A.cell 0 rfl
      have a1 := A.cell 1 rfl
      obtain ⟨⟨u, v⟩, eu⟩ : ∃ s, l.getD k (0, 0) = s := ⟨_, rfl⟩
      rw [eu] at b0 b1
      dsimp only at b0 b1
      by_cases hxy : (u, v) = (x, y)
      · obtain ⟨rfl, rfl⟩ := Prod.mk.inj hxy
        have hm : (u, v) ∈ l := eu ▸ mem_getD hlt
        have hS2 := fun q => S.bl (bl_drewN wr q)
        have Eu := Lib.hid eu; clear eu
        have Hno := Lib.hid hno; clear hno
        have Hm := Lib.hid hm; clear hm
        have HS2 := Lib.hid hS2; clear hS2
        have Hc := Lib.hid hc; clear hc
        clear S A
        go_wp2_with fail
        go_quiet (fail)
        go_wp2
        go_ret
        exact ⟨by rw [decide_eq_true Hm.out]; rfl, by first | exact (HS2.out _).below | exact ((HS2.out _).bl (bl_drewN _ _)).below⟩
      · have hne := pair_ne hxy
        have hno2 : ∀ j, j < k + 1 → l.getD j (0, 0) ≠ (x, y) := fun j hj => by
          by_cases e : j = k
          · rw [e, eu]; exact hxy
          · exact hno j (by omega)
        have hS2 := fun q => S.bl (bl_drewN wr q)
        have hA2 := fun q => A.bl (bl_drewN wr q)
        have Eu := Lib.hid eu; clear eu
        have Hno := Lib.hid hno; clear hno
        have Hno2 := Lib.hid hno2; clear hno2
        have HS2 := Lib.hid hS2; clear hS2
        have HA2 := Lib.hid hA2; clear hA2
        have Hc := Lib.hid hc; clear hc
        clear S A hxy
        rcases hne with hne | ⟨rfl, hne⟩
        all_goals
          go_wp2_with fail
          go_quiet (fail)
          go_wp2
          go_roundw
          case rel => exact ⟨k + 1, by omega, by go_num, Hno2.out, HS2.out _, HA2.out _⟩
          case measure => simp [intOf]; omega
    · obtain rfl : k = l.length := by omega
      have hm : ¬ (x, y) ∈ l := not_mem_of hno
      have Hm := Lib.hid hm; clear hm
      have Hno := Lib.hid hno; clear hno
      go_wp2
      go_ret
      exact ⟨by rw [decide_eq_false Hm.out]; rfl, S.below⟩
set_option maxRecDepth 100000 in
set_option maxHeartbeats 8000000 in
theorem l03Same_any (xb yb : Nat) (p q : Option Addr) (c d : Nat) (a b : List (Int × Int)) (w : World) (ha : a.length ≤ 1048576) (hb : b.length ≤ 1048576) (hX : CellAt w xb 0 (.slice p a.length c)) (hY : CellAt w yb 0 (.slice q b.length d)) (hr : Rd w p (a.length * 2) (spotAt a)) (hq : Rd w q (b.length * 2) (spotAt b)) :
    Calls Try.prog 38 #[.pointer (some ⟨xb, 0, none⟩), .pointer (some ⟨yb, 0, none⟩)] w fun e w' => e = .returned (.bool (decide (a = b))) ∧ Below w.heap.size w w' := by
  by_cases hle : a.length = b.length
  · obtain ⟨n, en⟩ : ∃ n, b.length = n := ⟨_, rfl⟩
    rw [en] at hle hq hY
    rw [hle] at hr ha hX
    have hall := eq_of_getD (a := a) (b := b) (by omega)
    rw [hle] at hall
    have Hle := Lib.hid hle; clear hle
    have En := Lib.hid en; clear en
    have Hall := Lib.hid hall; clear hall
    have HX := Lib.hid hX; clear hX
    have HY := Lib.hid hY; clear hY
    go_enter Try.func38, Try.ntmps38
    go_wp2
    go_loopw [5] (fun i wr => ∃ k : Nat, k ≤ n ∧ i = .int .i64 k ∧ (∀ j, j < k → a.getD j (0, 0) = b.getD j (0, 0)) ∧ Since w wr) (fun i _ => n - (intOf i).toNat)
    case atStart => exact ⟨0, Nat.zero_le _, rfl, fun j h => absurd h (by omega), Since.refl w⟩
    case round =>
      obtain ⟨k, hk, rfl, hno, S⟩ := hrel
      have hk0 : (0 : Int) ≤ (k : Int) := Int.natCast_nonneg _
      have x1 := (HX.out.bl S.below).out
      have y1 := (HY.out.bl S.below).out
      by_cases hlt : k < n
      · have hk1 : (k : Int) < (n : Int) := by omega
        obtain ⟨pb, po, rfl, hpl, hpc⟩ := hr.at (k := k * 2) (by omega)
        obtain ⟨qb, qo, rfl, hql, hqc⟩ := hq.at (k := k * 2) (by omega)
        have a0 := hpc (k * 2) (by omega)
        have a1 := hpc (k * 2 + 1) (by omega)
        have b0 := hqc (k * 2) (by omega)
        have b1 := hqc (k * 2 + 1) (by omega)
        rw [spotAt_x] at a0 b0
        rw [spotAt_y, ← Nat.add_assoc] at a1 b1
        obtain ⟨⟨x, y⟩, ex⟩ : ∃ s, a.getD k (0, 0) = s := ⟨_, rfl⟩
        obtain ⟨⟨u, v⟩, eu⟩ : ∃ s, b.getD k (0, 0) = s := ⟨_, rfl⟩
        rw [ex] at a0 a1
        rw [eu] at b0 b1
        dsimp only at a0 a1 b0 b1
        have a2 := (CellAt.bl (show CellAt w pb (po + k * 2) _ from a0) S.below).out
        have a3 := (CellAt.bl (show CellAt w pb (po + k * 2 + 1) _ from a1) S.below).out
        have b2 := (CellAt.bl (show CellAt w qb (qo + k * 2) _ from b0) S.below).out
        have b3 := (CellAt.bl (show CellAt w qb (qo + k * 2 + 1) _ from b1) S.below).out
        have hS2 := fun q => S.bl (bl_drewN wr q)
        clear a0 a1 b0 b1
        by_cases hxy : (x, y) = (u, v)
        · obtain ⟨rfl, rfl⟩ := Prod.mk.inj hxy
          have hno2 : ∀ j, j < k + 1 → a.getD j (0, 0) = b.getD j (0, 0) := fun j hj => by
            by_cases e : j = k
            · rw [e, ex, eu]
            · exact hno j (by omega)
          have Ex := Lib.hid ex; clear ex
          have Eu := Lib.hid eu; clear eu
          have Hno := Lib.hid hno; clear hno
          have Hno2 := Lib.hid hno2; clear hno2
          have HS2 := Lib.hid hS2; clear hS2
          have Hpc := Lib.hid hpc; clear hpc
          have Hqc := Lib.hid hqc; clear hqc
          clear S
          go_wp2_with fail
          go_quiet (fail)
          go_wp2_with fail
          go_quiet (fail)
          go_wp2
          go_roundw
          case rel => exact ⟨k + 1, by omega, by go_num, Hno2.out, HS2.out _⟩
          case measure => simp [intOf]; omega
        · have hne := pair_ne hxy
          have hab : ¬ a = b := fun e => hxy (by rw [← ex, ← eu, e])
          have Ex := Lib.hid ex; clear ex
          have Eu := Lib.hid eu; clear eu
          have Hno := Lib.hid hno; clear hno
          have HS2 := Lib.hid hS2; clear hS2
          have Hab := Lib.hid hab; clear hab
          have Hpc := Lib.hid hpc; clear hpc
          have Hqc := Lib.hid hqc; clear hqc
          clear S hxy
          rcases hne with hne | ⟨rfl, hne⟩
          all_goals
            go_wp2_with fail
            go_quiet (fail)
            go_wp2_with fail
            go_quiet (fail)
            go_wp2
            go_ret
            exact ⟨by rw [decide_eq_false Hab.out]; rfl, by first | exact (HS2.out _).below | exact ((HS2.out _).bl (bl_drewN _ _)).below⟩
      · obtain rfl : k = n := by omega
        have hab := Hall.out hno
        have hS2 := fun q => S.bl (bl_drewN wr q)
        have Hab := Lib.hid hab; clear hab
        have Hno := Lib.hid hno; clear hno
        have HS2 := Lib.hid hS2; clear hS2
        clear S
        go_wp2_with fail
        go_quiet (fail)
        go_wp2_with fail
        go_quiet (fail)
        go_wp2
        go_ret
        exact ⟨by rw [decide_eq_true Hab.out]; simp, by first | exact (HS2.out _).below | exact ((HS2.out _).bl (bl_drewN _ _)).below⟩
  · have hab : ¬ a = b := fun e => hle (by rw [e])
    obtain ⟨m, em⟩ : ∃ m, a.length = m := ⟨_, rfl⟩
    obtain ⟨n, en⟩ : ∃ n, b.length = n := ⟨_, rfl⟩
    rw [em] at hX hle
    rw [en] at hY hle
    clear hr hq ha hb em en
    rcases Nat.eq_zero_or_pos m with rfl | h0
    · have hle4 : ((0 : Int) == (n : Int)) = false := by rw [beq_eq_false_iff_ne]; omega
      have x1 := hX.out
      have y1 := hY.out
      have hS2 := fun q => (Since.refl w).bl (bl_drewN w q)
      have Hab := Lib.hid hab; clear hab
      have HX := Lib.hid hX; clear hX
      have HY := Lib.hid hY; clear hY
      have HS2 := Lib.hid hS2; clear hS2
      go_enter Try.func38, Try.ntmps38
      go_wp2
      go_loopw [5] (fun i wr => i = .int .i64 0 ∧ wr = w) (fun _ _ => 0)
      case atStart => exact ⟨rfl, rfl⟩
      case round =>
        obtain ⟨rfl, rfl⟩ := hrel
        go_wp2_with fail
        go_quiet (fail)
        go_wp2_with fail
        go_quiet (fail)
        go_wp2
        go_ret
        exact ⟨by rw [decide_eq_false Hab.out]; rfl, by first | exact (HS2.out _).below | exact ((HS2.out _).bl (bl_drewN _ _)).below⟩
    · have hle4 : ((m : Int) == (n : Int)) = false := by rw [beq_eq_false_iff_ne]; omega
      have h1 : (0 : Int) < (m : Int) := by omega
      have x1 := hX.out
      have y1 := hY.out
      have hS2 := fun q => (Since.refl w).bl (bl_drewN w q)
      have Hab := Lib.hid hab; clear hab
      have HX := Lib.hid hX; clear hX
      have HY := Lib.hid hY; clear hY
      have HS2 := Lib.hid hS2; clear hS2
      go_enter Try.func38, Try.ntmps38
      go_wp2
      go_loopw [5] (fun i wr => i = .int .i64 0 ∧ wr = w) (fun _ _ => 0)
      case atStart => exact ⟨rfl, rfl⟩
      case round =>
        obtain ⟨rfl, rfl⟩ := hrel
        go_wp2_with fail
        go_quiet (fail)
        go_wp2_with fail
        go_quiet (fail)
        go_wp2
        go_ret
        exact ⟨by rw [decide_eq_false Hab.out]; rfl, by first | exact (HS2.out _).below | exact ((HS2.out _).bl (bl_drewN _ _)).below⟩
end Go.Proofs.Ytheakjbbfdcbaaa
