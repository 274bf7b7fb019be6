/- Contracts of the program's sides and quarters of squares. -/
import Derived.Test.YtnenogpagkepfaaTreeS1
import Derived.Test.YtnenogpagkepfaaInts
set_option linter.unusedVariables false
set_option linter.unusedSimpArgs false
namespace Go.Proofs.Ytnenogpagkepfaa
open Go.RowKit

set_option maxHeartbeats 1000000 in
theorem indexInts_any (p : Option Addr) (c : Nat) (l : List Int) (n : Int) (w : World) (hn : l.length ≤ 1048576) (hr : Rd w p l.length (intAt l)) :
    Calls Try.prog 114 #[.slice p l.length c, .int .i64 n] w fun e w' => ∃ z : Int, e = .returned (.int .i64 z) ∧ decide (0 ≤ z) = l.any (fun x => n == x) ∧ w = w' := by
  go_enter Try.func114, Try.ntmps114
  go_wp2
  go_loop [8] (fun i => ∃ k : Nat, k ≤ l.length ∧ i = .int .i64 k ∧ (l.take k).any (fun x => n == x) = false) (fun i => l.length - (intOf i).toNat)
  case atStart => exact ⟨0, Nat.zero_le _, rfl, by simp⟩
  case round =>
    obtain ⟨k, hk, rfl, hall⟩ := hrel
    have Hall := Lib.hid hall; clear hall
    by_cases hkn : k < l.length
    · obtain ⟨b, o, rfl, hb, hc⟩ := hr.at hkn
      have hck := hc k hkn
      have hsu : (l.take (k + 1)).any (fun x => n == x) = ((l.take k).any (fun x => n == x) || (n == l.getD k 0)) := by
        rw [List.take_succ_eq_append_getElem hkn, List.any_append, List.any_cons, List.any_nil, Bool.or_false]
        simp only [List.getD, List.getElem?_eq_getElem hkn, Option.getD_some]
      have hmem : (n == l.getD k 0) = true → l.any (fun x => n == x) = true := fun h => List.any_eq_true.2 ⟨l.getD k 0, by simp [List.getD, List.getElem?_eq_getElem hkn], h⟩
      unfold intAt at hck
      have hk0 : (0 : Int) ≤ (k : Int) := Int.natCast_nonneg _
      have hk1 : (k : Int) < (l.length : Int) := by omega
      generalize l.getD k 0 = x at *
      clear hc hr
      cases hx : (n == x)
      · rw [hx, Bool.or_false] at hsu
        have Hsu := Lib.hid hsu; clear hsu
        have Hmem := Lib.hid hmem; clear hmem
        go_wp2
        go_round
        case rel => exact ⟨k + 1, by omega, by go_num, by rw [Hsu.out, Hall.out]⟩
        case measure => simp [intOf]; omega
      · have hy := hmem hx
        have Hsu := Lib.hid hsu; clear hsu
        have Hmem := Lib.hid hmem; clear hmem
        have Hy := Lib.hid hy; clear hy
        go_wp2
        go_ret
        exact ⟨_, rfl, by rw [Hy.out]; simp, rfl⟩
    · obtain rfl : k = l.length := by omega
      have hy := Hall.out
      rw [List.take_length] at hy
      have Hy := Lib.hid hy; clear hy
      go_wp2
      go_ret
      exact ⟨_, rfl, by rw [Hy.out]; simp, rfl⟩
set_option maxHeartbeats 1000000 in
theorem containsInts_any (p : Option Addr) (c : Nat) (l : List Int) (n : Int) (w : World) (hn : l.length ≤ 1048576) (hr : Rd w p l.length (intAt l)) :
    Calls Try.prog 98 #[.slice p l.length c, .int .i64 n] w fun e w' => e = .returned (.bool (l.any (fun x => n == x))) ∧ w = w' := by
  go_enter Try.func98, Try.ntmps98
  go_wp2_with fail
  refine (indexInts_any p c l n w hn hr).mono ?_
  rintro e w1 ⟨z, rfl, hz, rfl⟩
  have Hz := Lib.hid hz; clear hz
  go_wp2
  go_ret
  exact ⟨ret_bool Hz.out, rfl⟩
set_option maxHeartbeats 1000000 in
theorem sideOk_any (n : Int) (w : World) : Calls Try.prog 61 #[.int .i64 n] w fun e w' => e = .returned (.bool (sideB n)) ∧ Below w.heap.size w w' := by
  have B := Blk.new w #[.int .i64 1, .int .i64 2, .int .i64 4, .int .i64 8, .int .i64 16] 2
  have R : Rd (w.alloc (.cells #[.int .i64 1, .int .i64 2, .int .i64 4, .int .i64 8, .int .i64 16] 2)) (some ⟨w.heap.size, 0, none⟩) [(1 : Int), 2, 4, 8, 16].length (intAt [1, 2, 4, 8, 16]) := by
    refine .inr ⟨_, _, rfl, fun i hi => ?_⟩
    have h5 : i = 0 ∨ i = 1 ∨ i = 2 ∨ i = 3 ∨ i = 4 := by simp at hi; omega
    rw [Nat.zero_add]
    rcases h5 with rfl | rfl | rfl | rfl | rfl <;> exact B.cell _ rfl
  have c1 := containsInts_any (some ⟨w.heap.size, 0, none⟩) 5 [1, 2, 4, 8, 16] n _ (by simp) R
  have e1 : ([(1 : Int), 2, 4, 8, 16].any (fun x => n == x)) = sideB n := by simp [sideB, Bool.or_assoc]
  rw [e1] at c1
  have S := (Since.refl w).alloc (.cells #[.int .i64 1, .int .i64 2, .int .i64 4, .int .i64 8, .int .i64 16] 2)
  clear R B
  have C1 := Lib.hid c1; clear c1
  have E1 := Lib.hid e1; clear e1
  go_enter Try.func61, Try.ntmps61
  go_wp2_with fail
  refine C1.out.mono ?_
  rintro e w1 ⟨rfl, rfl⟩
  go_wp2
  go_ret
  exact ⟨rfl, S.below⟩
/-- The cells of the four quarters of a square. -/
def quarV (x y M : Int) : Array Value := #[.int .i64 x, .int .i64 y, .int .i64 M, .int .i64 (x + M), .int .i64 y, .int .i64 M, .int .i64 x, .int .i64 (y + M), .int .i64 M, .int .i64 (x + M), .int .i64 (y + M), .int .i64 M]
set_option maxRecDepth 100000 in
set_option maxHeartbeats 1000000 in
theorem quarters_any (x y s : Int) (M : Nat) (w : World) (hx0 : 0 ≤ x) (hx1 : x ≤ 1000) (hy0 : 0 ≤ y) (hy1 : y ≤ 1000) (hs : s = 2 * (M : Int)) (hM : M ≤ 8) :
    Calls Try.prog 107 #[.agg #[.int .i64 x, .int .i64 y, .int .i64 s]] w fun e w' => ∃ b, e = .returned (.slice (some ⟨b, 0, none⟩) 4 4) ∧ Blk w' b (quarV x y M) 81 ∧ w.heap.size ≤ b ∧ Below w.heap.size w w' := by
  have hd : s / 2 = (M : Int) := by omega
  have hs0 : 0 ≤ s := by omega
  have hs1 : s ≤ 16 := by omega
  have hM0 : (0 : Int) ≤ (M : Int) := Int.natCast_nonneg _
  have hM1 : (M : Int) ≤ 8 := by omega
  generalize (M : Int) = m at *
  clear hs hM
  go_enter Try.func107, Try.ntmps107
  go_wp2
  go_ret
  have h := Blk.new (w.alloc (.cells #[.int .i64 x, .int .i64 y, .int .i64 s] 81)) (quarV x y m) 81
  simp only [World.size_alloc] at h
  exact ⟨_, rfl, h, by simp, by (repeat' (first | exact Below.refl _ _ | assumption | refine Below.drew ?_ | refine below_drewN ?_ _ | refine Below.alloc ?_ ?_ _ | refine Below.setCell ?_ ?_ _ | go_size))⟩
end Go.Proofs.Ytnenogpagkepfaa
