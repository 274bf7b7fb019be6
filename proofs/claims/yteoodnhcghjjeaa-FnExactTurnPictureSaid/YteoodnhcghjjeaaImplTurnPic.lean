/- Contracts of the program's TurnPicture. -/
import Derived.Test.YteoodnhcghjjeaaImplTurned
set_option linter.unusedVariables false
namespace Go.Proofs.Yteoodnhcghjjeaa
open Go.RowKit

set_option maxHeartbeats 1000000 in
theorem turnedNo_any (m g W H : Nat) (f : Nat → Bool) (kind : Int) (w : World) (I : Img w m g W H f) (h : inB kind 0 3 = false) :
    Calls Try.prog 94 #[.pointer (some ⟨m, 0, none⟩), .int .i64 kind] w fun e w' => e = .returned (.pointer none) ∧ Below w.heap.size w w' := by
  have e0 : (kind == 0) = false := by cases h0 : (kind == 0) <;> simp_all [inB]
  have e1 : (kind == 1) = false := by cases h0 : (kind == 1) <;> simp_all [inB]
  have e2 : (kind == 2) = false := by cases h0 : (kind == 2) <;> simp_all [inB]
  have e3 : (kind == 3) = false := by cases h0 : (kind == 3) <;> simp_all [inB]
  have hb := bl_alloc w (.cells #[.pointer (some ⟨m, 0, none⟩)] 74)
  clear h
  go_enter Try.func94, Try.ntmps94
  go_wp2
  go_ret
  exact ⟨rfl, hb⟩
/-- turned, of any kind. -/
theorem turned_any (m g W H : Nat) (f : Nat → Bool) (kind : Int) (w : World) (I : Img w m g W H f) :
    Calls Try.prog 94 #[.pointer (some ⟨m, 0, none⟩), .int .i64 kind] w fun e w' => Below w.heap.size w w' ∧
      (inB kind 0 3 = false ∧ e = .returned (.pointer none) ∨ inB kind 0 3 = true ∧ ∃ m' g', e = .returned (.pointer (some ⟨m', 0, none⟩)) ∧ Img w' m' g' (turnW W H kind.toNat) (turnW H W kind.toNat) (turnG W H f kind.toNat)) := by
  cases h : inB kind 0 3
  · exact (turnedNo_any m g W H f kind w I h).mono fun e w' q => ⟨q.2, .inl ⟨rfl, q.1⟩⟩
  · have hk := inB_true h
    obtain ⟨k, rfl⟩ := Int.eq_ofNat_of_zero_le hk.1
    simp only [Int.toNat_natCast]
    rcases (show k = 0 ∨ k = 1 ∨ k = 2 ∨ k = 3 by omega) with rfl | rfl | rfl | rfl
    · exact (turnedK0_any m g W H f w I).mono fun e w' ⟨m', g', q1, q2, q3⟩ => ⟨q3, .inr ⟨trivial, m', g', q1, q2⟩⟩
    · exact (turnedK1_any m g W H f w I).mono fun e w' ⟨m', g', q1, q2, q3⟩ => ⟨q3, .inr ⟨trivial, m', g', q1, q2⟩⟩
    · exact (turnedK2_any m g W H f w I).mono fun e w' ⟨m', g', q1, q2, q3⟩ => ⟨q3, .inr ⟨trivial, m', g', q1, q2⟩⟩
    · exact (turnedK3_any m g W H f w I).mono fun e w' ⟨m', g', q1, q2, q3⟩ => ⟨q3, .inr ⟨trivial, m', g', q1, q2⟩⟩
theorem callFunc_turnPicture1 : ∀ args w, (callFunc 93 args).run Try.prog w = .ok (.enter 93 args) w := fun args w => by kernel_rfl
set_option maxHeartbeats 1000000 in
theorem turnPicture1_any (m g W H : Nat) (f : Nat → Bool) (kind : Int) (kb : Nat) (t : TypeId) (w : World) (K : Box w kb (.int .i64 kind) t) (I : Img w m g W H f) :
    Calls Try.prog 93 #[.pointer (some ⟨m, 0, none⟩), .pointer (some ⟨kb, 0, none⟩)] w fun e w' => Below w.heap.size w w' ∧
      (inB kind 0 3 = false ∧ e = .returned (.pointer none) ∨ inB kind 0 3 = true ∧ ∃ m' g', e = .returned (.pointer (some ⟨m', 0, none⟩)) ∧ Img w' m' g' (turnW W H kind.toNat) (turnW H W kind.toNat) (turnG W H f kind.toNat)) := by
  have k0 := K.cell
  have c := turned_any m g W H f kind w I
  have C := Lib.hid c; clear c
  clear I
  go_enter Try.func93, Try.ntmps93
  go_wp2_with fail
  refine C.out.mono ?_
  rintro e w' ⟨hb, ⟨h, rfl⟩ | ⟨h, m', g', rfl, J⟩⟩
  · have hh := Lib.hid h
    clear h
    go_wp2
    go_ret
    exact ⟨hb, .inl ⟨hh.out, rfl⟩⟩
  · have hh := Lib.hid h
    clear h
    go_wp2
    go_ret
    exact ⟨hb, .inr ⟨hh.out, m', g', rfl, J⟩⟩
set_option maxRecDepth 100000 in
set_option maxHeartbeats 2000000 in
theorem turnPicture_any (p : Option Addr) (c : Nat) (ss : List ByteArray) (kind : Int) (w : World) (hn : ss.length ≤ 1048576) (hs : ∀ s ∈ ss, s.size ≤ 1048576) (hr : Rd w p ss.length (strAt ss)) :
    Calls Try.prog 40 #[.agg #[.slice p ss.length c], .int .i64 kind] w fun e w' => ∃ v, e = .returned (.tuple #[.agg #[v], .bool (turnOk ss kind)]) ∧ OwnStrs w.heap.size w' v (turnL' ss kind) ∧ Below w.heap.size w w' := by
  have hy0 := bl_alloc w (.cells #[.slice p ss.length c] 28)
  have S := (Since.refl w).bl hy0
  have R := hr.bl hy0
  have hy1 := bl_alloc (w.alloc (.cells #[.slice p ss.length c] 28)) (.cells #[.int .i64 kind] 2)
  have X := Box.new (w.alloc (.cells #[.slice p ss.length c] 28)) (.int .i64 kind) 2
  replace S := S.bl hy1
  replace R := R.bl hy1
  have B := Box.new ((w.alloc (.cells #[.slice p ss.length c] 28)).alloc (.cells #[.int .i64 kind] 2)) (.slice none 0 0) 28
  have hy3 := bl_alloc ((w.alloc (.cells #[.slice p ss.length c] 28)).alloc (.cells #[.int .i64 kind] 2)) (.cells #[.slice none 0 0] 28)
  replace S := S.bl hy3
  replace R := R.bl hy3
  replace X := X.bl hy3
  simp only [World.size_alloc] at X B
  clear hy0 hy1 hy3
  have hcf := callFunc_turnPicture1
  go_enter Try.func40, Try.ntmps40
  go_wp2_with fail
  refine (withImage_any 93 _ p c ss _ hn hs R (turnW (wid ss) ss.length kind.toNat) (turnW ss.length (wid ss) kind.toNat) (turnG (wid ss) ss.length (bits ss) kind.toNat) (inB kind 0 3) hcf ?_).mono ?_
  · intro hok B' m g w' I h1 h2 h3 h4 S'
    exact (turnPicture1_any m g _ _ _ kind _ _ w' (X.below S'.below X.lt) I).mono fun e w'' h => ⟨h.1.mono h4, h.2⟩
  · rintro e w1 ⟨v, rfl, O, hb⟩
    have hlt := B.lt
    replace B := B.bl hb
    replace S := S.bl hb
    clear hb
    replace O : OwnStrs _ w1 v (turnL' ss kind) := O
    obtain ⟨p', c', rfl⟩ := O.form
    have f0 := B.frozen
    have f1 := B.cell
    have e0 := (B.set (.slice p' (turnL' ss kind).length c')).cell
    have O2 := O.set (a := ⟨w.heap.size + 1 + 1, 0, none⟩) hlt (.slice p' (turnL' ss kind).length c')
    have S3 := S.set (b := w.heap.size + 1 + 1) (by omega) 0 (.slice p' (turnL' ss kind).length c')
    go_wp2
    refine bodyPost_ret (v := .tuple #[.agg #[.slice p' (turnL' ss kind).length c'], .bool (turnOk ss kind)]) (by simp [results, Try.results40, go_sem, e0, turnOk]) rfl ⟨_, rfl, O2.mono (by simp; omega), S3.below⟩
end Go.Proofs.Yteoodnhcghjjeaa
