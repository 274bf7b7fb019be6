/- Contracts of the program's PixelAt, CountBlack, SpotsOf, IsInside and their parts. -/
import Derived.Test.YteoodnhcghjjeaaSpecOps
set_option linter.unusedVariables false
namespace Go.Proofs.Yteoodnhcghjjeaa
open Go.RowKit

set_option maxHeartbeats 1000000 in
theorem pixelAt_any (p : Option Addr) (c : Nat) (ss : List ByteArray) (x y : Int) (w : World) (hn : ss.length ≤ 1048576) (hs : ∀ s ∈ ss, s.size ≤ 1048576) (hr : Rd w p ss.length (strAt ss)) :
    Calls Try.prog 18 #[.agg #[.slice p ss.length c], .int .i64 x, .int .i64 y] w fun e w' =>
      e = .returned (.tuple #[.bool (okPic ss && px (wid ss) ss.length (bits ss) x y), .bool (okPic ss && hasB (wid ss) ss.length x y)]) ∧ Below w.heap.size w w' := by
  cases hh : hasB (wid ss) ss.length x y
  · have hp : px (wid ss) ss.length (bits ss) x y = false := by rw [px, hh]; rfl
    rw [hp, Bool.and_false]
    have Hp := Lib.hid hp; clear hp
    have Hh := Lib.hid hh; clear hh
    go_enter Try.func18, Try.ntmps18
    go_wp2_with fail
    refine (imageOf_any p c ss _ hn hs (hr.alloc _)).mono ?_
    rintro e w1 ⟨hb, ⟨h, rfl⟩ | ⟨h, m, g, rfl, hI, hm, hg⟩⟩
    · have H := Lib.hid h; clear h
      have hb1 := below_a1 hb
      go_wp2
      go_ret2
      exact ⟨rfl, hb1⟩
    · have H := Lib.hid h; clear h
      have hb1 := below_a1 hb
      have c1 := has_any m g _ _ _ x y w1 hI
      rw [Hh.out] at c1
      have C1 := Lib.hid c1; clear c1
      go_wp2_with fail
      refine C1.out.mono ?_
      rintro e w2 ⟨rfl, rfl⟩
      go_wp2
      go_ret2
      exact ⟨rfl, hb1⟩
  · have Hh := Lib.hid hh; clear hh
    go_enter Try.func18, Try.ntmps18
    go_wp2_with fail
    refine (imageOf_any p c ss _ hn hs (hr.alloc _)).mono ?_
    rintro e w1 ⟨hb, ⟨h, rfl⟩ | ⟨h, m, g, rfl, hI, hm, hg⟩⟩
    · have hb1 := below_a1 hb
      have H := Lib.hid h; clear h
      go_wp2
      go_ret2
      exact ⟨by rw [H.out]; rfl, hb1⟩
    · have hb1 := below_a1 hb
      have H := Lib.hid h; clear h
      have c1 := has_any m g _ _ _ x y w1 hI
      rw [Hh.out] at c1
      have c2 := get_any m g _ _ _ x y w1 hI
      have C1 := Lib.hid c1; clear c1
      have C2 := Lib.hid c2; clear c2
      go_wp2_with fail
      refine C1.out.mono ?_
      rintro e w2 ⟨rfl, rfl⟩
      go_wp2_with fail
      refine C2.out.mono ?_
      rintro e w2 ⟨rfl, n, rfl⟩
      have hb2 := bl_trans hb1 (bl_drewN w1 n)
      go_wp2
      go_ret2
      exact ⟨by rw [H.out]; rfl, hb2⟩
set_option maxHeartbeats 1000000 in
theorem countBlack_any (p : Option Addr) (c : Nat) (ss : List ByteArray) (w : World) (hn : ss.length ≤ 1048576) (hs : ∀ s ∈ ss, s.size ≤ 1048576) (hr : Rd w p ss.length (strAt ss)) :
    Calls Try.prog 21 #[.agg #[.slice p ss.length c]] w fun e w' => e = .returned (.tuple #[.int .i64 ((spotsL ss).length : Int), .bool (okPic ss)]) ∧ Below w.heap.size w w' := by
  go_enter Try.func21, Try.ntmps21
  go_wp2_with fail
  refine (imageOf_any p c ss _ hn hs (hr.alloc _)).mono ?_
  rintro e w1 ⟨hb, ⟨h, rfl⟩ | ⟨h, m, g, rfl, hI, hm, hg⟩⟩
  · have hb1 := below_a1 hb
    have H := Lib.hid h; clear h
    go_wp2
    go_ret2
    exact ⟨by rw [spotsL, H.out]; rfl, hb1⟩
  · have hb1 := below_a1 hb
    have H := Lib.hid h; clear h
    go_wp2_with fail
    refine (count_any m g _ _ _ w1 hI).mono ?_
    rintro e w2 ⟨rfl, hb2⟩
    have hb3 := bl_trans hb1 hb2
    go_wp2
    go_ret2
    exact ⟨by rw [spotsL, H.out]; rfl, hb3⟩
set_option maxHeartbeats 1000000 in
theorem spotsOf_any (p : Option Addr) (c : Nat) (ss : List ByteArray) (w : World) (hn : ss.length ≤ 1048576) (hs : ∀ s ∈ ss, s.size ≤ 1048576) (hr : Rd w p ss.length (strAt ss)) :
    Calls Try.prog 23 #[.agg #[.slice p ss.length c]] w fun e w' => ∃ v, e = .returned (.tuple #[v, .bool (okPic ss)]) ∧ OwnSpots w.heap.size w' v (spotsL ss) ∧ Below w.heap.size w w' := by
  go_enter Try.func23, Try.ntmps23
  go_wp2_with fail
  refine (imageOf_any p c ss _ hn hs (hr.alloc _)).mono ?_
  rintro e w1 ⟨hb, ⟨h, rfl⟩ | ⟨h, m, g, rfl, hI, hm, hg⟩⟩
  · have hb1 := below_a1 hb
    have H := Lib.hid h; clear h
    go_wp2
    go_ret2
    exact ⟨_, by rw [H.out]; rfl, by rw [spotsL, H.out]; exact OwnSpots.nil _ _, hb1⟩
  · have hb1 := below_a1 hb
    have H := Lib.hid h; clear h
    go_wp2_with fail
    refine (spots_any m g _ _ _ w1 hI).mono ?_
    rintro e w2 ⟨v, rfl, ho, hb2⟩
    have hb3 := bl_trans hb1 hb2
    have hs1 := hb1.size
    obtain ⟨q, d, rfl⟩ := ho.form
    go_wp2
    go_ret2
    exact ⟨_, by rw [H.out]; rfl, by rw [spotsL, H.out]; exact ho.mono hs1, hb3⟩
end Go.Proofs.Yteoodnhcghjjeaa
