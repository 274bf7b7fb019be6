/- Contracts of the program's twoImages, inside and IsInside. -/
import Derived.Test.YtakoklldmdbphaaImplOps
import Derived.Test.YtakoklldmdbphaaSpecIn
set_option linter.unusedVariables false
namespace Go.Proofs.Ytakoklldmdbphaa
open Go.RowKit

set_option maxHeartbeats 2000000 in
theorem twoImages_any (p q : Option Addr) (c d : Nat) (ss ts : List ByteArray) (w : World) (hn : ss.length ≤ 1048576) (hs : ∀ s ∈ ss, s.size ≤ 1048576) (hn2 : ts.length ≤ 1048576) (hs2 : ∀ s ∈ ts, s.size ≤ 1048576)
    (hr : Rd w p ss.length (strAt ss)) (hq : Rd w q ts.length (strAt ts)) :
    Calls Try.prog 112 #[.agg #[.slice p ss.length c], .agg #[.slice q ts.length d]] w fun e w' => Below w.heap.size w w' ∧
      ((likeB ss ts = false ∧ ∃ a b, e = .returned (.tuple #[.pointer a, .pointer b, .bool false])) ∨
       (likeB ss ts = true ∧ ∃ m g n h, e = .returned (.tuple #[.pointer (some ⟨m, 0, none⟩), .pointer (some ⟨n, 0, none⟩), .bool true]) ∧ Img w' m g (wid ss) ss.length (bits ss) ∧ Img w' n h (wid ss) ss.length (bits ts) ∧
        w.heap.size ≤ m ∧ w.heap.size ≤ g ∧ w.heap.size ≤ n ∧ w.heap.size ≤ h)) := by
  have S := ((Since.refl w).bl (bl_alloc w (.cells #[.slice p ss.length c] 30))).bl (bl_alloc _ (.cells #[.slice q ts.length d] 30))
  have A := ((Box.new w (.slice p ss.length c) 30).alloc (.cells #[.slice q ts.length d] 30))
  have B := Box.new (w.alloc (.cells #[.slice p ss.length c] 30)) (.slice q ts.length d) 30
  have R := (hr.alloc (.cells #[.slice p ss.length c] 30)).alloc (.cells #[.slice q ts.length d] 30)
  have Q := (hq.alloc (.cells #[.slice p ss.length c] 30)).alloc (.cells #[.slice q ts.length d] 30)
  simp only [World.size_alloc] at B
  go_enter Try.func112, Try.ntmps112
  go_wp2_with fail
  refine (imageOf_any p c ss _ hn hs R).mono ?_
  rintro e w1 ⟨hb, ⟨h, rfl⟩ | ⟨h, m, g, rfl, hI, hm, hg⟩⟩
  · replace S := S.bl hb
    replace B := B.bl hb
    replace Q := Q.bl hb
    clear hb A R
    have hv : likeB ss ts = false := by simp [likeB, h]
    have b0 := B.cell
    go_wp2_with fail
    refine (imageOf_any q d ts _ hn2 hs2 Q).mono ?_
    rintro e w2 ⟨hb, ⟨h2, rfl⟩ | ⟨h2, n, k, rfl, hJ, hn, hk⟩⟩
    all_goals
      have S1 := S.bl hb
      clear hb S h
      go_wp2
      go_region
      go_wp2
      go_ret3
      exact ⟨S1.below.drew, .inl ⟨hv, _, _, rfl⟩⟩
  · replace S := S.bl hb
    replace B := B.bl hb
    replace Q := Q.bl hb
    clear hb A R
    have b0 := B.cell
    go_wp2_with fail
    refine (imageOf_any q d ts _ hn2 hs2 Q).mono ?_
    rintro e w2 ⟨hb, ⟨h2, rfl⟩ | ⟨h2, n, k, rfl, hJ, hn, hk⟩⟩
    · have hv : likeB ss ts = false := by simp [likeB, h2]
      have S1 := S.bl hb
      clear hb S h hI
      go_wp2
      go_region
      go_wp2
      go_ret3
      exact ⟨S1.below.drew, .inl ⟨hv, _, _, rfl⟩⟩
    · have hI1 := hI.below hb hI.lt.1 hI.lt.2
      have S1 := S.bl hb
      have S0 := S.size
      have hv : likeB ss ts = (((wid ss : Int) == (wid ts : Int)) && ((ss.length : Int) == (ts.length : Int))) := by simp [likeB, h, h2]
      clear hb S hI h h2
      have i0 := hI1.c0
      have i1 := hI1.c1
      have j0 := hJ.c0
      have j1 := hJ.c1
      simp only [World.size_alloc] at hm hg
      cases hw : ((wid ss : Int) == (wid ts : Int))
      · rw [hw] at hv
        have Hv := Lib.hid hv; clear hv
        go_wp2
        go_region
        go_wp2
        go_ret3
        exact ⟨S1.below.drew, .inl ⟨Hv.out, _, _, rfl⟩⟩
      · rw [hw] at hv
        cases hh : ((ss.length : Int) == (ts.length : Int))
        · rw [hh] at hv
          have Hv := Lib.hid hv; clear hv
          go_wp2
          go_region
          go_wp2
          go_ret3
          exact ⟨S1.below.drew, .inl ⟨Hv.out, _, _, rfl⟩⟩
        · rw [hh] at hv
          have e1 : wid ss = wid ts := by have := eq_of_beq hw; omega
          have e2 : ss.length = ts.length := by have := eq_of_beq hh; omega
          have hJ1 := hJ.drewN 1
          rw [← e1, ← e2] at hJ1
          have Hv := Lib.hid hv; clear hv
          have E1 := Lib.hid e1; clear e1
          have E2 := Lib.hid e2; clear e2
          go_wp2
          go_region
          go_wp2
          go_ret3
          exact ⟨S1.below.drew, .inr ⟨Hv.out, m, g, n, k, rfl, hI1.drewN 1, hJ1, by omega, by omega, by omega, by omega⟩⟩
end Go.Proofs.Ytakoklldmdbphaa
