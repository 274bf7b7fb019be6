/- The marks of a second list, behind those of a first. -/
import Derived.Test.YtheakjbbfdcbaaaLawCutS
set_option linter.unusedVariables false
set_option linter.unusedSimpArgs false
namespace Go.Proofs.Ytheakjbbfdcbaaa
open Go.RowKit

theorem MarkNums.grow {w w' : World} {p : Option Addr} {n : Nat} (h : MarkNums w p n) {r : Option Nat} (hg : w.grownBy w' r) (hr : ∀ k g, (∀ n c, (Value.slice p n c).ownBlock = some k) → r = some g → k ≠ g) : MarkNums w' p n :=
  ⟨Rd.grown hg h.rd (fun b o e h2 => hr b b (fun n c => by rw [e]; rfl) h2.symm rfl)⟩
/-- Marked from 1 + a * 2 on. -/
structure MarkTwo (a : Nat) (w : World) (p : Option Addr) (m : Nat) : Prop where
  rd : Rd w p m (numAt (1 + a * 2))
theorem MarkTwo.bl {a : Nat} {w w' : World} {p : Option Addr} {n : Nat} (h : MarkTwo a w p n) (hb : Below w.heap.size w w') : MarkTwo a w' p n := ⟨h.rd.bl hb⟩
theorem ret_int2 {a n : Nat} : Ending.returned (.int .i64 ((1 + a * 2 + n * 2 : Nat) : Int)) = Ending.returned (.int .i64 (1 + (a : Int) * 2 + (n : Int) * 2)) := by
  rw [show ((1 + a * 2 + n * 2 : Nat) : Int) = 1 + (a : Int) * 2 + (n : Int) * 2 by omega]
set_option maxHeartbeats 1000000 in
theorem markElement_2 {B a : Nat} {w : World} {p : Option Addr} {c : Nat} {l : List (Int × Int)} (h : OwnSpots B w (.slice p l.length c) l) (hn : l.length ≤ 1048576) (ha : a ≤ 1048576) :
    Calls Try.prog 15 #[.agg #[.slice p l.length c], .int .i64 (1 + (a : Int) * 2)] w fun e w' => e = .returned (.int .i64 (1 + (a : Int) * 2 + l.length * 2)) ∧ MarkTwo a w' p (l.length * 2) ∧ w.grownBy w' (Value.slice p l.length c).ownBlock := by
  have c0 := markSpotS_own (h.bl (bl_alloc w (.cells #[.slice p l.length c] 28))) hn (1 + a * 2) (by omega) (by omega)
  rw [show ((1 + a * 2 : Nat) : Int) = 1 + (a : Int) * 2 by omega] at c0
  have C0 := Lib.hid c0; clear c0
  go_enter Try.func15, Try.ntmps15
  go_wp2_with fail
  refine C0.out.mono ?_
  rintro e w1 ⟨rfl, hm, hg⟩
  have hg2 := grown_trans (World.grownBy_alloc w (.cells #[.slice p l.length c] 28) _) hg
  go_wp2
  go_ret
  exact ⟨ret_int2, ⟨hm⟩, hg2⟩
set_option maxHeartbeats 1000000 in
theorem heldElement_2 {w : World} {p : Option Addr} {n a : Nat} (c : Nat) (h : MarkTwo a w p (n * 2)) (hn : n ≤ 1048576) (ha : a ≤ 1048576) :
    Calls Try.prog 16 #[.agg #[.slice p n c], .int .i64 (1 + (a : Int) * 2)] w fun e w' => e = .returned (.int .i64 (1 + (a : Int) * 2 + n * 2)) ∧ Below w.heap.size w w' := by
  have c0 := heldSpotS_any p n c (1 + a * 2) _ hn (by omega) (by omega) (h.bl (bl_alloc w (.cells #[.slice p n c] 28))).rd
  rw [show ((1 + a * 2 : Nat) : Int) = 1 + (a : Int) * 2 by omega] at c0
  have h2 : (0 : Int) ≤ 1 + (a : Int) * 2 + (n : Int) * 2 := by omega
  have C0 := Lib.hid c0; clear c0
  go_enter Try.func16, Try.ntmps16
  go_wp2_with fail
  refine C0.out.mono ?_
  rintro e w1 ⟨rfl, rfl⟩
  have hb1 := bl_alloc w (.cells #[.slice p n c] 28)
  go_wp2
  go_ret
  exact ⟨ret_int2, hb1⟩
end Go.Proofs.Ytheakjbbfdcbaaa
