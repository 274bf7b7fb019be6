/- Contracts of the program's twoImages, inside and IsInside. -/
import Derived.Test.YteoodnhcghjjeaaImplOps
import Derived.Test.YteoodnhcghjjeaaSpecIn
set_option linter.unusedVariables false
namespace Go.Proofs.Yteoodnhcghjjeaa
open Go.RowKit

set_option maxHeartbeats 2000000 in
theorem twoImages_any (p q : Option Addr) (c d : Nat) (ss ts : List ByteArray) (w : World) (hn : ss.length ≤ 1048576) (hs : ∀ s ∈ ss, s.size ≤ 1048576) (hn2 : ts.length ≤ 1048576) (hs2 : ∀ s ∈ ts, s.size ≤ 1048576)
    (hr : Rd w p ss.length (strAt ss)) (hq : Rd w q ts.length (strAt ts)) :
    Calls Try.prog 71 #[.agg #[.slice p ss.length c], .agg #[.slice q ts.length d]] w fun e w' => Below w.heap.size w w' ∧
      ((likeB ss ts = false ∧ ∃ a b, e = .returned (.tuple #[.pointer a, .pointer b, .bool false])) ∨
       (likeB ss ts = true ∧ ∃ m g n h, e = .returned (.tuple #[.pointer (some ⟨m, 0, none⟩), .pointer (some ⟨n, 0, none⟩), .bool true]) ∧ Img w' m g (wid ss) ss.length (bits ss) ∧ Img w' n h (wid ss) ss.length (bits ts) ∧
        w.heap.size ≤ m ∧ w.heap.size ≤ g ∧ w.heap.size ≤ n ∧ w.heap.size ≤ h)) := by
  have S := ((Since.refl w).bl (bl_alloc w (.cells #[.slice p ss.length c] 28))).bl (bl_alloc _ (.cells #[.slice q ts.length d] 28))
  have A := ((Box.new w (.slice p ss.length c) 28).alloc (.cells #[.slice q ts.length d] 28))
  have B := Box.new (w.alloc (.cells #[.slice p ss.length c] 28)) (.slice q ts.length d) 28
  have R := (hr.alloc (.cells #[.slice p ss.length c] 28)).alloc (.cells #[.slice q ts.length d] 28)
  have Q := (hq.alloc (.cells #[.slice p ss.length c] 28)).alloc (.cells #[.slice q ts.length d] 28)
  simp only [World.size_alloc] at B
  go_enter Try.func71, Try.ntmps71
  go_wp2_with fail
  refine (imageOf_any p c ss _ hn hs R).mono ?_
  rintro e w1 ⟨hb, ⟨h, rfl⟩ | ⟨h, m, g, rfl, hI, hm, hg⟩⟩
  · replace S := S.bl hb
    replace B := B.bl hb
    replace Q := Q.bl hb
    clear hb A R
    have hv : likeB ss ts = false := by simp [likeB, h]
    have b0 := B.cell
    go_wp2_with fail
    refine (imageOf_any q d ts _ hn2 hs2 Q).mono ?_
    rintro e w2 ⟨hb, ⟨h2, rfl⟩ | ⟨h2, n, k, rfl, hJ, hn, hk⟩⟩
    all_goals
      have S1 := S.bl hb
      clear hb S h
      go_wp2
      go_region
      go_wp2
      go_ret3
      exact ⟨S1.below.drew, .inl ⟨hv, _, _, rfl⟩⟩
  · replace S := S.bl hb
    replace B := B.bl hb
    replace Q := Q.bl hb
    clear hb A R
    have b0 := B.cell
    go_wp2_with fail
    refine (imageOf_any q d ts _ hn2 hs2 Q).mono ?_
    rintro e w2 ⟨hb, ⟨h2, rfl⟩ | ⟨h2, n, k, rfl, hJ, hn, hk⟩⟩
    · have hv : likeB ss ts = false := by simp [likeB, h2]
      have S1 := S.bl hb
      clear hb S h hI
      go_wp2
      go_region
      go_wp2
      go_ret3
      exact ⟨S1.below.drew, .inl ⟨hv, _, _, rfl⟩⟩
    · have hI1 := hI.below hb hI.lt.1 hI.lt.2
      have S1 := S.bl hb
      have S0 := S.size
      have hv : likeB ss ts = (((wid ss : Int) == (wid ts : Int)) && ((ss.length : Int) == (ts.length : Int))) := by simp [likeB, h, h2]
      clear hb S hI h h2
      have i0 := hI1.c0
      have i1 := hI1.c1
      have j0 := hJ.c0
      have j1 := hJ.c1
      simp only [World.size_alloc] at hm hg
      cases hw : ((wid ss : Int) == (wid ts : Int))
      · rw [hw] at hv
        have Hv := Lib.hid hv; clear hv
        go_wp2
        go_region
        go_wp2
        go_ret3
        exact ⟨S1.below.drew, .inl ⟨Hv.out, _, _, rfl⟩⟩
      · rw [hw] at hv
        cases hh : ((ss.length : Int) == (ts.length : Int))
        · rw [hh] at hv
          have Hv := Lib.hid hv; clear hv
          go_wp2
          go_region
          go_wp2
          go_ret3
          exact ⟨S1.below.drew, .inl ⟨Hv.out, _, _, rfl⟩⟩
        · rw [hh] at hv
          have e1 : wid ss = wid ts := by have := eq_of_beq hw; omega
          have e2 : ss.length = ts.length := by have := eq_of_beq hh; omega
          have hJ1 := hJ.drewN 1
          rw [← e1, ← e2] at hJ1
          have Hv := Lib.hid hv; clear hv
          have E1 := Lib.hid e1; clear e1
          have E2 := Lib.hid e2; clear e2
          go_wp2
          go_region
          go_wp2
          go_ret3
          exact ⟨S1.below.drew, .inr ⟨Hv.out, m, g, n, k, rfl, hI1.drewN 1, hJ1, by omega, by omega, by omega, by omega⟩⟩
/-- The loop of inside: all of the first n pixels are well. -/
def InLoop (w0 : World) (f f' : Nat → Bool) (N : Nat) (i : Value) (wr : World) : Prop :=
  ∃ n : Nat, n ≤ N ∧ i = .int .i64 n ∧ Hid (inTo f f' n = true) ∧ wr = w0
set_option maxHeartbeats 2000000 in
theorem inside_any (m g n h W H : Nat) (f f' : Nat → Bool) (w : World) (I : Img w m g W H f) (J : Img w n h W H f') :
    Calls Try.prog 72 #[.pointer (some ⟨m, 0, none⟩), .pointer (some ⟨n, 0, none⟩)] w fun e w' => e = .returned (.bool (inTo f f' (W * H))) ∧ w = w' := by
  have hm := mul_256 I.w16 I.h16
  have i2 := I.c2
  have j2 := J.c2
  have L := I.row
  have L' := J.row
  obtain ⟨N, eN⟩ : ∃ N, W * H = N := ⟨_, rfl⟩
  rw [eN] at L L' hm i2 j2
  have hv : inTo f f' (W * H) = inTo f f' N := by rw [eN]
  have Hv := Lib.hid hv; clear hv
  clear I J eN
  go_enter Try.func72, Try.ntmps72
  go_wp2
  go_loopw [12] (InLoop w f f' N) (fun i _ => N - (intOf i).toNat)
  case atStart => unfold InLoop; exact ⟨0, Nat.zero_le _, rfl, Lib.hid rfl, rfl⟩
  case round =>
    obtain ⟨x, hx, rfl, hi, rfl⟩ := hrel
    by_cases hN : x < N
    · have e1 := L.cell hN
      have e2 := L'.cell hN
      have hsu := inTo_succ f f' x
      rw [hi.out] at hsu
      cases h1 : f x
      · rw [h1] at e1 hsu
        have Hsu := Lib.hid hsu; clear hsu
        have H1 := Lib.hid h1; clear h1
        go_wp2
        go_roundw
        case rel => unfold InLoop; exact ⟨x + 1, by omega, by go_num, Lib.hid Hsu.out, rfl⟩
        case measure => simp [intOf]; omega
      · rw [h1] at e1 hsu
        cases h2 : f' x
        · rw [h2] at e2 hsu
          have Hsu := Lib.hid hsu; clear hsu
          have H1 := Lib.hid h1; clear h1
          have H2 := Lib.hid h2; clear h2
          go_wp2
          go_ret
          exact ⟨ret_bool (Hv.out.trans (inTo_le Hsu.out (by omega))).symm, rfl⟩
        · rw [h2] at e2 hsu
          have Hsu := Lib.hid hsu; clear hsu
          have H1 := Lib.hid h1; clear h1
          have H2 := Lib.hid h2; clear h2
          go_wp2
          go_roundw
          case rel => unfold InLoop; exact ⟨x + 1, by omega, by go_num, Lib.hid Hsu.out, rfl⟩
          case measure => simp [intOf]; omega
    · obtain rfl : x = N := by omega
      go_wp2
      go_ret
      exact ⟨ret_bool (Hv.out.trans hi.out).symm, rfl⟩
set_option maxHeartbeats 2000000 in
theorem isInside_any (p q : Option Addr) (c d : Nat) (ss ts : List ByteArray) (w : World) (hn : ss.length ≤ 1048576) (hs : ∀ s ∈ ss, s.size ≤ 1048576) (hn2 : ts.length ≤ 1048576) (hs2 : ∀ s ∈ ts, s.size ≤ 1048576)
    (hr : Rd w p ss.length (strAt ss)) (hq : Rd w q ts.length (strAt ts)) :
    Calls Try.prog 29 #[.agg #[.slice p ss.length c], .agg #[.slice q ts.length d]] w fun e w' => e = .returned (.bool (insideB ss ts)) ∧ Below w.heap.size w w' := by
  have S := ((Since.refl w).bl (bl_alloc w (.cells #[.slice p ss.length c] 28))).bl (bl_alloc _ (.cells #[.slice q ts.length d] 28))
  have R := (hr.alloc (.cells #[.slice p ss.length c] 28)).alloc (.cells #[.slice q ts.length d] 28)
  have Q := (hq.alloc (.cells #[.slice p ss.length c] 28)).alloc (.cells #[.slice q ts.length d] 28)
  go_enter Try.func29, Try.ntmps29
  go_wp2_with fail
  refine (twoImages_any p q c d ss ts _ hn hs hn2 hs2 R Q).mono ?_
  rintro e w1 ⟨hb, ⟨h, a, b, rfl⟩ | ⟨h, m, g, n, k, rfl, I, J, -⟩⟩
  · have S1 := S.bl hb
    have hv : insideB ss ts = false := by simp [insideB, h]
    have Hv := Lib.hid hv; clear hv
    clear h hb
    go_wp2
    go_ret
    exact ⟨ret_bool Hv.out.symm, S1.below⟩
  · have S1 := S.bl hb
    have hv : insideB ss ts = inTo (bits ss) (bits ts) (wid ss * ss.length) := by simp [insideB, h]
    have Hv := Lib.hid hv; clear hv
    clear h hb
    go_wp2_with fail
    refine (inside_any m g n k _ _ _ _ w1 I J).mono ?_
    rintro e w2 ⟨rfl, rfl⟩
    go_wp2
    go_ret
    exact ⟨ret_bool Hv.out.symm, S1.below⟩
end Go.Proofs.Yteoodnhcghjjeaa
