/- Contract of slices.Equal at spots (as in FacA, for a seat without elements). -/
import Derived.Test.YtjplikkehhpomaaSpots
set_option linter.unusedVariables false
set_option linter.unusedSimpArgs false
namespace Go.Proofs.Ytjplikkehhpomaa
open Go.RowKit

theorem mem_getD {l : List (Int × Int)} {k : Nat} (h : k < l.length) : l.getD k (0, 0) ∈ l := by simp [List.getD, List.getElem?_eq_getElem h]
theorem not_mem_of {l : List (Int × Int)} {s : Int × Int} (h : ∀ j, j < l.length → l.getD j (0, 0) ≠ s) : ¬ s ∈ l := by
  intro hm
  obtain ⟨i, hi, rfl⟩ := List.getElem_of_mem hm
  refine h i hi ?_
  simp [List.getD, List.getElem?_eq_getElem hi]
theorem eq_of_getD {a b : List (Int × Int)} (hl : a.length = b.length) (h : ∀ j, j < a.length → a.getD j (0, 0) = b.getD j (0, 0)) : a = b := by
  refine List.ext_getElem hl fun i h1 h2 => ?_
  have := h i h1
  simpa [List.getD, List.getElem?_eq_getElem h1, List.getElem?_eq_getElem h2] using this
theorem pair_ne {x y u v : Int} (h : ¬ (x, y) = (u, v)) : ¬ x = u ∨ (x = u ∧ ¬ y = v) := by
  by_cases e : x = u
  · exact .inr ⟨e, fun g => h (by rw [e, g])⟩
  · exact .inl e
set_option maxRecDepth 100000 in
set_option maxHeartbeats 8000000 in
theorem equal_any (p q : Option Addr) (c d : Nat) (a b : List (Int × Int)) (w : World) (ha : a.length ≤ 1048576) (hb : b.length ≤ 1048576) (hr : Rd w p (a.length * 2) (spotAt a)) (hq : Rd w q (b.length * 2) (spotAt b)) :
    Calls Try.prog 58 #[.slice p a.length c, .slice q b.length d] w fun e w' => e = .returned (.bool (decide (a = b))) ∧ Below w.heap.size w w' := by
  by_cases hle : a.length = b.length
  · have hle2 : ((a.length : Int) == (b.length : Int)) = true := by rw [beq_iff_eq]; omega
    have hle3 : (a.length : Int) = (b.length : Int) := by omega
    obtain ⟨n, en⟩ : ∃ n, b.length = n := ⟨_, rfl⟩
    rw [hle]
    rw [en] at hle hq ⊢ 
    rw [hle] at hr ha
    clear hle2 hle3
    have hall := eq_of_getD (a := a) (b := b) (by omega)
    rw [hle] at hall
    have Hle := Lib.hid hle; clear hle
    have En := Lib.hid en; clear en
    have Hall := Lib.hid hall; clear hall
    go_enter Try.func58, Try.ntmps58
    go_wp2
    go_loopw [13] (fun i wr => ∃ k : Nat, k ≤ n ∧ i = .int .i64 k ∧ (∀ j, j < k → a.getD j (0, 0) = b.getD j (0, 0)) ∧ Since w wr) (fun i _ => n - (intOf i).toNat)
    case atStart => exact ⟨0, Nat.zero_le _, rfl, fun j h => absurd h (by omega), Since.refl w⟩
    case round =>
      obtain ⟨k, hk, rfl, hno, S⟩ := hrel
      have hk0 : (0 : Int) ≤ (k : Int) := Int.natCast_nonneg _
      by_cases hlt : k < n
      · have hk1 : (k : Int) < (n : Int) := by omega
        obtain ⟨pb, po, rfl, hpl, hpc⟩ := (hr.bl S.below).at (k := k * 2) (by omega)
        obtain ⟨qb, qo, rfl, hql, hqc⟩ := (hq.bl S.below).at (k := k * 2) (by omega)
        have a0 := hpc (k * 2) (by omega)
        have a1 := hpc (k * 2 + 1) (by omega)
        have b0 := hqc (k * 2) (by omega)
        have b1 := hqc (k * 2 + 1) (by omega)
        rw [spotAt_x] at a0 b0
        rw [spotAt_y, ← Nat.add_assoc] at a1 b1
        obtain ⟨⟨x, y⟩, ex⟩ : ∃ s, a.getD k (0, 0) = s := ⟨_, rfl⟩
        obtain ⟨⟨u, v⟩, eu⟩ : ∃ s, b.getD k (0, 0) = s := ⟨_, rfl⟩
        rw [ex] at a0 a1
        rw [eu] at b0 b1
        dsimp only at a0 a1 b0 b1
        have hS2 := fun q => S.bl (bl_drewN wr q)
        by_cases hxy : (x, y) = (u, v)
        · obtain ⟨rfl, rfl⟩ := Prod.mk.inj hxy
          have hno2 : ∀ j, j < k + 1 → a.getD j (0, 0) = b.getD j (0, 0) := fun j hj => by
            by_cases e : j = k
            · rw [e, ex, eu]
            · exact hno j (by omega)
          have Ex := Lib.hid ex; clear ex
          have Eu := Lib.hid eu; clear eu
          have Hno := Lib.hid hno; clear hno
          have Hno2 := Lib.hid hno2; clear hno2
          have HS2 := Lib.hid hS2; clear hS2
          have Hpc := Lib.hid hpc; clear hpc
          have Hqc := Lib.hid hqc; clear hqc
          clear S
          go_wp2_with fail
          go_quiet (fail)
          go_wp2
          go_roundw
          case rel => exact ⟨k + 1, by omega, by go_num, Hno2.out, HS2.out _⟩
          case measure => simp [intOf]; omega
        · have hne := pair_ne hxy
          have hab : ¬ a = b := fun e => hxy (by rw [← ex, ← eu, e])
          have Ex := Lib.hid ex; clear ex
          have Eu := Lib.hid eu; clear eu
          have Hno := Lib.hid hno; clear hno
          have HS2 := Lib.hid hS2; clear hS2
          have Hab := Lib.hid hab; clear hab
          have Hpc := Lib.hid hpc; clear hpc
          have Hqc := Lib.hid hqc; clear hqc
          clear S hxy
          rcases hne with hne | ⟨rfl, hne⟩
          all_goals
            go_wp2_with fail
            go_quiet (fail)
            go_wp2
            go_ret
            exact ⟨by rw [decide_eq_false Hab.out]; rfl, (HS2.out _).below⟩
      · obtain rfl : k = n := by omega
        have hab := Hall.out hno
        have Hab := Lib.hid hab; clear hab
        have Hno := Lib.hid hno; clear hno
        go_wp2
        go_ret
        exact ⟨by rw [decide_eq_true Hab.out]; rfl, S.below⟩
  · have hab : ¬ a = b := fun e => hle (by rw [e])
    have hle3 : ¬ (a.length : Int) = (b.length : Int) := by omega
    have Hab := Lib.hid hab; clear hab
    go_enter Try.func58, Try.ntmps58
    go_wp2
    go_ret
    exact ⟨by rw [decide_eq_false Hab.out]; rfl, Below.refl _ _⟩
end Go.Proofs.Ytjplikkehhpomaa
