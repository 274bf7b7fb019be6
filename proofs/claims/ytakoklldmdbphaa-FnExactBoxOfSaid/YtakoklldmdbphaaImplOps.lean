/- Contracts of the program's PixelAt, CountBlack, SpotsOf, IsInside and their parts. -/
import Derived.Test.YtakoklldmdbphaaSpecOps
set_option linter.unusedVariables false
namespace Go.Proofs.Ytakoklldmdbphaa
open Go.RowKit

set_option maxHeartbeats 1000000 in
theorem countBlack_any (p : Option Addr) (c : Nat) (ss : List ByteArray) (w : World) (hn : ss.length ≤ 1048576) (hs : ∀ s ∈ ss, s.size ≤ 1048576) (hr : Rd w p ss.length (strAt ss)) :
    Calls Try.prog 50 #[.agg #[.slice p ss.length c]] w fun e w' => e = .returned (.tuple #[.int .i64 ((spotsL ss).length : Int), .bool (okPic ss)]) ∧ Below w.heap.size w w' := by
  go_enter Try.func50, Try.ntmps50
  go_wp2_with fail
  refine (imageOf_any p c ss _ hn hs (hr.alloc _)).mono ?_
  rintro e w1 ⟨hb, ⟨h, rfl⟩ | ⟨h, m, g, rfl, hI, hm, hg⟩⟩
  · have hb1 := below_a1 hb
    have H := Lib.hid h; clear h
    go_wp2
    go_ret2
    exact ⟨by rw [spotsL, H.out]; rfl, hb1⟩
  · have hb1 := below_a1 hb
    have H := Lib.hid h; clear h
    go_wp2_with fail
    refine (count_any m g _ _ _ w1 hI).mono ?_
    rintro e w2 ⟨rfl, hb2⟩
    have hb3 := bl_trans hb1 hb2
    go_wp2
    go_ret2
    exact ⟨by rw [spotsL, H.out]; rfl, hb3⟩
end Go.Proofs.Ytakoklldmdbphaa
