/- Contracts of the laws' helpers over elements. -/
import Derived.Test.YtheakjbbfdcbaaaLawKit
set_option linter.unusedVariables false
namespace Go.Proofs.Ytheakjbbfdcbaaa
open Go.RowKit

set_option maxHeartbeats 1000000 in
theorem szElement_any (p : Option Addr) (n c : Nat) (left : Int) (w : World) (hn : n ≤ maxLen) (h0 : 0 ≤ left) (h1 : left ≤ 1048576) :
    Calls Try.prog 10 #[.agg #[.slice p n c], .int .i64 left] w fun e w' => e = .returned (.int .i64 (if left - n < 0 then -1 else left - n)) ∧ Below w.heap.size w w' := by
  have c0 := fun w => szSpotS_any p n c left w hn h0 h1
  unfold maxLen at hn
  by_cases h : left - n < 0
  · rw [if_pos h] at c0 ⊢
    have C0 := Lib.hid c0; clear c0
    go_enter Try.func10, Try.ntmps10
    go_wp2_with fail
    refine (C0.out _).mono ?_
    rintro e w1 ⟨rfl, rfl⟩
    go_wp2
    go_ret
    exact ⟨rfl, by (repeat' (first | exact Below.refl _ _ | assumption | refine Below.drew ?_ | refine below_drewN ?_ _ | refine Below.alloc ?_ ?_ _ | refine Below.setCell ?_ ?_ _ | go_size))⟩
  · rw [if_neg h] at c0 ⊢
    have h2 : 0 ≤ left - n := by omega
    have C0 := Lib.hid c0; clear c0
    go_enter Try.func10, Try.ntmps10
    go_wp2_with fail
    refine (C0.out _).mono ?_
    rintro e w1 ⟨rfl, rfl⟩
    go_wp2
    go_ret
    exact ⟨rfl, by (repeat' (first | exact Below.refl _ _ | assumption | refine Below.drew ?_ | refine below_drewN ?_ _ | refine Below.alloc ?_ ?_ _ | refine Below.setCell ?_ ?_ _ | go_size))⟩
set_option maxHeartbeats 1000000 in
theorem toElement_any (p : Option Addr) (c : Nat) (l : List (Int × Int)) (w : World) (hn : l.length ≤ 1048576) (hr : Rd w p (l.length * 2) (spotAt l)) :
    Calls Try.prog 12 #[.agg #[.slice p l.length c]] w fun e w' => ∃ g, e = .returned (.agg #[.slice (some ⟨g, 0, none⟩) l.length l.length]) ∧ w.heap.size ≤ g ∧ w'.rowIs g 45 (l.length * 2) (spotAt l) ∧ Below w.heap.size w w' := by
  go_enter Try.func12, Try.ntmps12
  go_wp2_with fail
  refine (toSpotS_any _ _ _ _ hn (((hr.alloc _).alloc _).alloc _)).mono ?_
  rintro e w1 ⟨g, rfl, hg, hrow, hb⟩
  have hb1 := below_a3 hb
  obtain ⟨hcl, hfr⟩ := bcell hb
  simp only [World.size_alloc] at hg
  go_wp2
  refine bodyPost_ret (v := .agg #[.slice (some ⟨g, 0, none⟩) l.length l.length]) (by simp [results, Try.results12, go_sem, hcl]) rfl ⟨g, rfl, by omega, ?_, ?_⟩
  · exact (hrow.setOther (by simp; omega) _).setOther (by simp; omega) _
  · (repeat' (first | exact Below.refl _ _ | assumption | refine Below.drew ?_ | refine below_drewN ?_ _ | refine Below.alloc ?_ ?_ _ | refine Below.setCell ?_ ?_ _ | go_size))
theorem toElement_x {B : Nat} {w : World} {p : Option Addr} {c : Nat} {l : List (Int × Int)} (h : ArgRd B w p (l.length * 2) (spotAt l)) (hn : l.length ≤ 1048576) :
    Calls Try.prog 12 #[.agg #[.slice p l.length c]] w fun e w' => ∃ g, e = .returned (.agg #[.slice (some ⟨g, 0, none⟩) l.length l.length]) ∧ Copy w' g 45 (l.length * 2) (spotAt l) ∧ w.heap.size ≤ g ∧ Below w.heap.size w w' :=
  (toElement_any p c l w hn h.rd).mono fun e w' ⟨g, he, hg, hr, hb⟩ => ⟨g, he, ⟨hr⟩, hg, hb⟩
set_option maxHeartbeats 1000000 in
theorem eqElement_same (p q : Option Addr) (c d : Nat) (l : List (Int × Int)) (w : World) (hn : l.length ≤ 1048576) (hr : Rd w p (l.length * 2) (spotAt l)) (hq : Rd w q (l.length * 2) (spotAt l)) :
    Calls Try.prog 14 #[.agg #[.slice p l.length c], .agg #[.slice q l.length d]] w fun e w' => e = .returned (.bool true) ∧ Below w.heap.size w w' := by
  go_enter Try.func14, Try.ntmps14
  go_wp2_with fail
  refine (eqSpotS_same _ _ _ _ l _ hn ((hr.alloc _).alloc _) ((hq.alloc _).alloc _)).mono ?_
  rintro e w1 ⟨rfl, hb⟩
  have hb1 := below_a2 hb
  go_wp2
  go_ret
  exact ⟨rfl, hb1⟩
set_option maxHeartbeats 1000000 in
theorem markElement_x {w : World} {g n : Nat} {f : Nat → Value} (c : Nat) (h : Copy w g 45 (n * 2) f) (hn : n ≤ 1048576) (k : Int) (h0 : 0 < k) (h1 : k ≤ 1073741824) :
    Calls Try.prog 15 #[.agg #[.slice (some ⟨g, 0, none⟩) n c], .int .i64 k] w fun e w' => e = .returned (.int .i64 (k + n * 2)) ∧ w.grownBy w' (some g) := by
  have c0 := markSpotS_x c (h.bl (bl_alloc w (.cells #[.slice (some ⟨g, 0, none⟩) n c] 28))) hn k h0 h1
  have C0 := Lib.hid c0; clear c0
  go_enter Try.func15, Try.ntmps15
  go_wp2_with fail
  refine C0.out.mono ?_
  rintro e w1 ⟨rfl, hg⟩
  have hg2 := grown_trans (World.grownBy_alloc w (.cells #[.slice (some ⟨g, 0, none⟩) n c] 28) (some g)) hg
  go_wp2
  go_ret
  exact ⟨rfl, hg2⟩
set_option maxHeartbeats 1000000 in
theorem markElement_g {B : Nat} {w : World} {p : Option Addr} {c : Nat} {l : List (Int × Int)} (h : OwnSpots B w (.slice p l.length c) l) (hn : l.length ≤ 1048576) :
    Calls Try.prog 15 #[.agg #[.slice p l.length c], .int .i64 1] w fun e w' => e = .returned (.int .i64 (1 + l.length * 2)) ∧ MarkNums w' p (l.length * 2) ∧ w.grownBy w' (Value.slice p l.length c).ownBlock := by
  have c0 := markSpotS_g (h.bl (bl_alloc w (.cells #[.slice p l.length c] 28))) hn
  have C0 := Lib.hid c0; clear c0
  go_enter Try.func15, Try.ntmps15
  go_wp2_with fail
  refine C0.out.mono ?_
  rintro e w1 ⟨rfl, hm, hg⟩
  have hg2 := grown_trans (World.grownBy_alloc w (.cells #[.slice p l.length c] 28) _) hg
  go_wp2
  go_ret
  exact ⟨rfl, hm, hg2⟩
set_option maxHeartbeats 1000000 in
theorem heldElement_g {w : World} {p : Option Addr} {n : Nat} (c : Nat) (h : MarkNums w p (n * 2)) (hn : n ≤ 1048576) :
    Calls Try.prog 16 #[.agg #[.slice p n c], .int .i64 1] w fun e w' => e = .returned (.int .i64 (1 + n * 2)) ∧ Below w.heap.size w w' := by
  have c0 := heldSpotS_g c (h.bl (bl_alloc w (.cells #[.slice p n c] 28))) hn
  have h2 : (0 : Int) ≤ 1 + (n : Int) * 2 := by omega
  have C0 := Lib.hid c0; clear c0
  go_enter Try.func16, Try.ntmps16
  go_wp2_with fail
  refine C0.out.mono ?_
  rintro e w1 ⟨rfl, hb⟩
  have hb1 := below_a1 hb
  go_wp2
  go_ret
  exact ⟨rfl, hb1⟩
end Go.Proofs.Ytheakjbbfdcbaaa
