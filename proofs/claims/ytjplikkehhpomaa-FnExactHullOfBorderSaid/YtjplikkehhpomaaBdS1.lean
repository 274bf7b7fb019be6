/- Contracts of the reference's small functions over borders. -/
import Derived.Test.YtjplikkehhpomaaBdLaw
set_option linter.unusedVariables false
namespace Go.Proofs.Ytjplikkehhpomaa
open Go.RowKit

def dX (k : Int) : Int := if k = 0 then 1 else if k = 2 then -1 else 0
def dY (k : Int) : Int := if k = 1 then 1 else if k = 3 then -1 else 0
theorem nxt_d {p : Int × Int} (h : small p) {k : Int} (h0 : 0 ≤ k) (h3 : k ≤ 3) : nxt p k = (wrap64 (p.1 + dX k), wrap64 (p.2 + dY k)) := by
  have e : k = 0 ∨ k = 1 ∨ k = 2 ∨ k = 3 := by omega
  have a := wrap_id h.1
  have b := wrap_id h.2
  rcases e with rfl | rfl | rfl | rfl <;> simp [nxt, dX, dY, a, b, Int.sub_eq_add_neg]
set_option maxHeartbeats 400000 in
theorem l04X_any (k : Int) (w : World) : Calls Try.prog 49 #[.int .i64 k] w fun e w' => e = .returned (.int .i64 (dX k)) ∧ w = w' := by
  go_enter Try.func49, Try.ntmps49
  go_wp2
  all_goals
    go_ret
    exact ⟨ret_int (by unfold dX; split <;> (try split) <;> simp_all), rfl⟩
set_option maxHeartbeats 400000 in
theorem l04Y_any (k : Int) (w : World) : Calls Try.prog 48 #[.int .i64 k] w fun e w' => e = .returned (.int .i64 (dY k)) ∧ w = w' := by
  go_enter Try.func48, Try.ntmps48
  go_wp2
  all_goals
    go_ret
    exact ⟨ret_int (by unfold dY; split <;> (try split) <;> simp_all), rfl⟩
def cornB (p : Int × Int) : Bool := inB p.1 0 16 && inB p.2 0 16
theorem cornB_iff {p : Int × Int} : cornB p = true ↔ corner p := by simp [cornB, corner, inB]
set_option maxHeartbeats 400000 in
theorem l04Corner_any (x y : Int) (w : World) : Calls Try.prog 53 #[.agg #[.int .i64 x, .int .i64 y]] w fun e w' => e = .returned (.bool (cornB (x, y))) ∧ Below w.heap.size w w' := by
  have c1 := fun w => l00In_any x 0 16 w
  have c2 := fun w => l00In_any y 0 16 w
  cases hx : inB x 0 16
  · rw [hx] at c1
    have C1 := Lib.hid c1; clear c1
    have Hx := Lib.hid hx; clear hx
    go_enter Try.func53, Try.ntmps53
    go_wp2_with (first | with_reducible (refine (C1.out _).mono ?_; rintro e w1 ⟨rfl, rfl⟩) | fail)
    go_ret
    exact ⟨ret_bool (by simp [cornB, Hx.out]), by (repeat' (first | exact Below.refl _ _ | assumption | refine Below.drew ?_ | refine below_drewN ?_ _ | refine Below.alloc ?_ ?_ _ | refine Below.setCell ?_ ?_ _ | go_size))⟩
  · rw [hx] at c1
    have C1 := Lib.hid c1; clear c1
    have Hx := Lib.hid hx; clear hx
    have C2 := Lib.hid c2; clear c2
    go_enter Try.func53, Try.ntmps53
    go_wp2_with (first | with_reducible (refine (C1.out _).mono ?_; rintro e w1 ⟨rfl, rfl⟩) | with_reducible (refine (C2.out _).mono ?_; rintro e w1 ⟨rfl, rfl⟩) | fail)
    go_ret
    exact ⟨ret_bool (by simp [cornB, Hx.out]), by (repeat' (first | exact Below.refl _ _ | assumption | refine Below.drew ?_ | refine below_drewN ?_ _ | refine Below.alloc ?_ ?_ _ | refine Below.setCell ?_ ?_ _ | go_size))⟩
set_option maxHeartbeats 400000 in
theorem l04Way_any (c : UInt8) (w : World) : Calls Try.prog 47 #[.int .u8 c.toNat] w fun e w' => e = .returned (.int .i64 (wayOf c)) ∧ w = w' := by
  have hc := c.toNat_lt
  obtain ⟨n, hn⟩ : ∃ n, c.toNat = n := ⟨_, rfl⟩
  have e : wayOf c = if n = 114 then 0 else if n = 100 then 1 else if n = 108 then 2 else if n = 117 then 3 else -1 := by rw [wayOf, hn]
  rw [e, hn]
  rw [hn] at hc
  clear e hn
  obtain ⟨r, hr⟩ : ∃ r : Int, (if n = 114 then 0 else if n = 100 then 1 else if n = 108 then 2 else if n = 117 then 3 else -1) = r := ⟨_, rfl⟩
  rw [hr]
  have Hr := Lib.hid hr; clear hr
  go_enter Try.func47, Try.ntmps47
  go_wp2
  go_loop [3] (fun i => ∃ k : Nat, k ≤ 4 ∧ i = .int .i64 k ∧ (0 < k → ¬ n = 114) ∧ (1 < k → ¬ n = 100) ∧ (2 < k → ¬ n = 108) ∧ (3 < k → ¬ n = 117)) (fun i => 4 - (intOf i).toNat)
  case atStart => exact ⟨0, by omega, rfl, by omega, by omega, by omega, by omega⟩
  case round =>
    obtain ⟨k, hk, rfl, h0, h1, h2, h3⟩ := hrel
    have ek : k = 0 ∨ k = 1 ∨ k = 2 ∨ k = 3 ∨ k = 4 := by omega
    rcases ek with rfl | rfl | rfl | rfl | rfl
    · clear hk
      clear h0 h1 h2 h3
      by_cases hn : n = 114
      · subst hn
        go_wp2
        go_ret
        exact ⟨ret_int Hr.out, rfl⟩
      · have q : ((n : Int) == (((⟨#[114, 100, 108, 117]⟩ : ByteArray)[0]'(by decide)).toNat : Int)) = false := by
          show ((n : Int) == 114) = false
          simp
          omega
        go_wp2
        go_round
        case rel => exact ⟨1, by omega, by go_num, fun _ => hn, by omega, by omega, by omega⟩
        case measure => simp [intOf]
    · clear hk
      have n0 : ¬ n = 114 := h0 (by omega)
      clear h0 h1 h2 h3
      by_cases hn : n = 100
      · subst hn
        go_wp2
        go_ret
        exact ⟨ret_int Hr.out, rfl⟩
      · have q : ((n : Int) == (((⟨#[114, 100, 108, 117]⟩ : ByteArray)[1]'(by decide)).toNat : Int)) = false := by
          show ((n : Int) == 100) = false
          simp
          omega
        go_wp2
        go_round
        case rel => exact ⟨2, by omega, by go_num, fun _ => n0, fun _ => hn, by omega, by omega⟩
        case measure => simp [intOf]
    · clear hk
      have n0 : ¬ n = 114 := h0 (by omega)
      have n1 : ¬ n = 100 := h1 (by omega)
      clear h0 h1 h2 h3
      by_cases hn : n = 108
      · subst hn
        go_wp2
        go_ret
        exact ⟨ret_int Hr.out, rfl⟩
      · have q : ((n : Int) == (((⟨#[114, 100, 108, 117]⟩ : ByteArray)[2]'(by decide)).toNat : Int)) = false := by
          show ((n : Int) == 108) = false
          simp
          omega
        go_wp2
        go_round
        case rel => exact ⟨3, by omega, by go_num, fun _ => n0, fun _ => n1, fun _ => hn, by omega⟩
        case measure => simp [intOf]
    · clear hk
      have n0 : ¬ n = 114 := h0 (by omega)
      have n1 : ¬ n = 100 := h1 (by omega)
      have n2 : ¬ n = 108 := h2 (by omega)
      clear h0 h1 h2 h3
      by_cases hn : n = 117
      · subst hn
        go_wp2
        go_ret
        exact ⟨ret_int Hr.out, rfl⟩
      · have q : ((n : Int) == (((⟨#[114, 100, 108, 117]⟩ : ByteArray)[3]'(by decide)).toNat : Int)) = false := by
          show ((n : Int) == 117) = false
          simp
          omega
        go_wp2
        go_round
        case rel => exact ⟨4, by omega, by go_num, fun _ => n0, fun _ => n1, fun _ => n2, fun _ => hn⟩
        case measure => simp [intOf]
    · have n0 := h0 (by omega)
      have n1 := h1 (by omega)
      have n2 := h2 (by omega)
      have n3 := h3 (by omega)
      clear h0 h1 h2 h3 hk
      go_wp2
      go_ret
      exact ⟨ret_int (by rw [← Hr.out, if_neg n0, if_neg n1, if_neg n2, if_neg n3]), rfl⟩
end Go.Proofs.Ytjplikkehhpomaa
