/- Contracts of the program's small functions over borders. -/
import Derived.Test.YtjplikkehhpomaaBdS1
import Derived.Test.YtjplikkehhpomaaShelfR6
import Derived.Test.YtjplikkehhpomaaTriKit
set_option linter.unusedVariables false
namespace Go.Proofs.Ytjplikkehhpomaa
open Go.RowKit

theorem ne_byte {c k : UInt8} (h : ¬ c.toNat = k.toNat) : (k == c) = false := by
  rw [beq_eq_false_iff_ne]
  intro e
  exact h (by rw [e])
theorem eq_byte {c k : UInt8} (h : c.toNat = k.toNat) : c = k := UInt8.toNat_inj.1 h
theorem indexByte_way (c : UInt8) : Lib.indexByte [114, 100, 108, 117] c = wayOf c := by
  unfold wayOf
  by_cases a : c.toNat = 114
  · rw [if_pos a, eq_byte (k := 114) a]; rfl
  · rw [if_neg a]
    have a' := ne_byte (k := 114) a
    by_cases b : c.toNat = 100
    · rw [if_pos b, eq_byte (k := 100) b]; rfl
    · rw [if_neg b]
      have b' := ne_byte (k := 100) b
      by_cases d : c.toNat = 108
      · rw [if_pos d, eq_byte (k := 108) d]; rfl
      · rw [if_neg d]
        have d' := ne_byte (k := 108) d
        by_cases f : c.toNat = 117
        · rw [if_pos f, eq_byte (k := 117) f]; rfl
        · rw [if_neg f]
          have f' := ne_byte (k := 117) f
          simp [Lib.indexByte, a', b', d', f']
set_option maxHeartbeats 400000 in
theorem stepOf_any (c : UInt8) (w : World) : Calls Try.prog 59 #[.int .u8 c.toNat] w fun e w' => e = .returned (.int .i64 (wayOf c)) ∧ w = w' := by
  have k := Try.strings_IndexByte ⟨#[114, 100, 108, 117]⟩ (c.toNat : Int) w
  rw [show Lib.indexByte (⟨#[114, 100, 108, 117]⟩ : ByteArray).data.toList ((c.toNat : Int).toNat.toUInt8) = wayOf c by
    rw [Int.toNat_natCast, show c.toNat.toUInt8 = c from UInt8.ofNat_toNat]
    exact indexByte_way c] at k
  have K := Lib.hid k; clear k
  go_enter Try.func59, Try.ntmps59
  go_wp2_with fail
  refine K.out.mono ?_
  rintro e w1 ⟨rfl, rfl⟩
  go_wp2
  go_ret
  exact ⟨rfl, rfl⟩
set_option maxRecDepth 100000 in
set_option maxHeartbeats 400000 in
theorem moved_any (x y k : Int) (h0 : 0 ≤ k) (h3 : k ≤ 3) (w : World) : Calls Try.prog 60 #[.agg #[.int .i64 x, .int .i64 y], .int .i64 k] w fun e w' => e = .returned (.agg #[.int .i64 (nxt (x, y) k).1, .int .i64 (nxt (x, y) k).2]) ∧ Below w.heap.size w w' := by
  have e : k = 0 ∨ k = 1 ∨ k = 2 ∨ k = 3 := by omega
  clear h0 h3
  have hbx := (bl_alloc w (.cells #[.int .i64 x, .int .i64 y] 28))
  rcases e with rfl | rfl | rfl | rfl
  all_goals
    go_enter Try.func60, Try.ntmps60
    go_wp2
    refine bodyPost_ret (v := .agg #[.int .i64 _, .int .i64 _]) (by simp [results, Try.results60, go_sem, nxt]; try exact ⟨rfl, rfl⟩) rfl ⟨rfl, by (repeat' (first | exact Below.refl _ _ | assumption | refine Below.drew ?_ | refine below_drewN ?_ _ | refine Below.alloc ?_ ?_ _ | refine Below.setCell ?_ ?_ _ | go_size))⟩
end Go.Proofs.Ytjplikkehhpomaa
