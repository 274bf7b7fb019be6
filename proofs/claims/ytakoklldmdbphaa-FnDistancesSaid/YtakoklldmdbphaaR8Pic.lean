/- Contracts of the drawn picture and of the helpers that the law FnDistances calls. -/
import Derived.Test.YtakoklldmdbphaaNearLaw
import Derived.Test.YtakoklldmdbphaaDistI
set_option linter.unusedVariables false
set_option linter.unusedSimpArgs false
namespace Go.Proofs.Ytakoklldmdbphaa
open Go.RowKit

set_option maxHeartbeats 2000000 in
theorem r8Picture_any (p : Option Addr) (c : Nat) (l : List Int) (w : World) (hr : Rd w p l.length (byteAt l)) (hby : ∀ x ∈ l, 0 ≤ x ∧ x ≤ 255) (hl : l.length ≤ 1048576) :
    Calls Try.prog 48 #[.slice p l.length c] w fun e w' => ∃ p' c' W H f, e = .returned (.agg #[.slice p' H c']) ∧ Pic w' p' W H f ∧ Below w.heap.size w w' := by
  have hy := bl_alloc w (.cells #[.slice none 0 0] 30)
  have B := Box.new w (.slice none 0 0) 30
  have S := (Since.refl w).bl hy
  have cf := from_any p c l _ (hr.bl hy) hby hl
  simp only [World.size_alloc] at cf
  have Cf := Lib.hid cf; clear cf
  have Hby := Lib.hid hby; clear hby
  go_enter Try.func48, Try.ntmps48
  go_wp2_with fail
  with_reducible (refine Cf.out.mono ?_)
  rintro e w1 ⟨rfl, S0, hb0, hlt0⟩
  have T := S.bl (by rw [World.size_alloc]; exact hb0)
  have B1 := Box.bl B (by rw [World.size_alloc]; exact hb0)
  clear Cf hb0 S B hy
  generalize eb : w.heap.size + 1 = b at *
  have c1 := pick_any 8 b p c l 0 w1 (by omega) hl (by omega) S0
  have C1 := Lib.hid c1; clear c1
  have Eb := Lib.hid eb; clear eb
  go_wp2_with fail
  with_reducible (refine C1.out.mono ?_)
  rintro e w2 ⟨x, -, hx, rfl, S2, hg2⟩
  have hx1 := hx (by omega)
  have T2 := T.grown hg2 (by have := Eb.out; omega)
  have B2 := B1.grown hg2 (by intro e; cases e; have := Eb.out; omega)
  clear C1 S0 T B1 hg2 hx
  have c2 := pick_any 8 b p c l _ w2 (by omega) hl (by omega) S2
  have C2 := Lib.hid c2; clear c2
  go_wp2_with fail
  with_reducible (refine C2.out.mono ?_)
  rintro e w3 ⟨y, -, hy, rfl, S3, hg3⟩
  have hy1 := hy (by omega)
  have T3 := T2.grown hg3 (by have := Eb.out; omega)
  have B3 := B2.grown hg3 (by intro e; cases e; have := Eb.out; omega)
  clear C2 S2 T2 B2 hg3 hy
  have c3 := drawPic_any b (1 + x) (1 + y) p c l w3 (by omega) (by omega) (by omega) (by omega) hl (S3.more (by omega))
  have e1 : ((1 + x : Nat) : Int) = 1 + (x : Int) := by omega
  have e2 : ((1 + y : Nat) : Int) = 1 + (y : Int) := by omega
  rw [e1, e2] at c3
  have C3 := Lib.hid c3; clear c3
  have E1 := Lib.hid e1; clear e1
  have E2 := Lib.hid e2; clear e2
  go_wp2_with fail
  with_reducible (refine C3.out.mono ?_)
  rintro e w4 ⟨v, f, rfl, O, hg4⟩
  have T4 := T3.grown hg4 (by have := Eb.out; omega)
  have B4 := B3.grown hg4 (by intro e; cases e; have := Eb.out; omega)
  have f0 := B4.frozen
  have f1 := B4.cell
  have hlw := B3.lt
  have hge := O.ge
  obtain ⟨p', c', rfl⟩ := O.form
  have p4 := Pic.of_own (by omega) (by omega) (by omega) (by omega) (OwnStrs.set O (a := ⟨w.heap.size, 0, none⟩) hlw (.slice p' (render (1 + x) (1 + y) f).length c'))
  have e0 := (B4.set (.slice p' (render (1 + x) (1 + y) f).length c')).cell
  have t5 : Since w (w4.setCell ⟨w.heap.size, 0, none⟩ (.slice p' (render (1 + x) (1 + y) f).length c')) := ⟨T4.below.setCell (by simp) _⟩
  have hlen := render_len (1 + x) (1 + y) f
  rw [hlen] at p4 t5 e0 ⊢
  have P4 := Lib.hid p4; clear p4
  have T5 := Lib.hid t5; clear t5
  have Hlen := Lib.hid hlen; clear hlen
  have Hge := Lib.hid hge; clear hge
  clear B4 T4 T3 B3 hg4 O C3 S3
  go_wp2
  exact bodyPost_ret (v := .agg #[.slice p' (1 + y) c']) (by simp [results, Try.results48, go_sem, e0]) rfl ⟨_, _, _, _, f, rfl, P4.out, T5.out.below⟩
/-- The row y of a picture that was made, and the sign of its pixel x. -/
theorem row_sign {W H x y : Nat} {f : Nat → Bool} (hH : 1 ≤ H) (hW : 1 ≤ W) (h16 : W ≤ 16) (hH16 : H ≤ 16) (hx : x < W) (hy : y < H) :
    ∃ (s : ByteArray) (h : x < s.size), (render W H f).getD y ByteArray.empty = s ∧ s.size = W ∧ ((s[x].toNat : Int) == 35) = f (y * W + x) := by
  have hok := okPic_render f hW h16 hH hH16
  have hwd : wid (render W H f) = W := wid_render hH
  have hlen := render_len W H f
  obtain ⟨hsz, -⟩ := okPic_row hok (y := y) (by omega)
  have hlt : x < ((render W H f).getD y ByteArray.empty).size := by omega
  refine ⟨_, hlt, rfl, by omega, ?_⟩
  have hbt := bitAt_byte (ss := render W H f) (x := x) (y := y) hlt
  have hb := bits_at (ss := render W H f) (x := x) (y := y) (by omega)
  rw [hwd, bits_render hH (at_lt hx hy)] at hb
  rw [hb, hbt]
  exact byte_eqb _ 35
set_option maxHeartbeats 1000000 in
theorem r8Black_any (p : Option Addr) (W H c : Nat) (f : Nat → Bool) (x y : Nat) (xi yi : Int) (w : World) (P : Pic w p W H f) (hx : x < W) (hy : y < H) (hxi : xi = x) (hyi : yi = y) :
    Calls Try.prog 52 #[.agg #[.slice p H c], .int .i64 xi, .int .i64 yi] w fun e w' => e = .returned (.bool (f (y * W + x))) ∧ Below w.heap.size w w' := by
  subst hxi hyi
  obtain ⟨s, hlt, es, hsz, hv⟩ := row_sign (f := f) P.h1 P.w1 P.w2 P.h2 hx hy
  have hW16 := P.w2
  have B := Box.new w (.slice p H c) 30
  have hb0 := bl_alloc w (.cells #[.slice p H c] 30)
  have R := P.rd.bl hb0
  have k0 := B.cell
  obtain ⟨b, o, rfl, hb, hc⟩ := R.at hy
  have hcy := hc y hy
  rw [strAt, es] at hcy
  have hs16 : s.size ≤ 16 := by omega
  have hx0 : (0 : Int) ≤ (x : Int) := Int.natCast_nonneg _
  have hy0 : (0 : Int) ≤ (y : Int) := Int.natCast_nonneg _
  have hx1 : (x : Int) < (s.size : Int) := by omega
  have hy1 : (y : Int) < (H : Int) := by omega
  have Hv := Lib.hid hv; clear hv
  have Es := Lib.hid es; clear es
  have Hsz := Lib.hid hsz; clear hsz
  clear hc R P
  go_enter Try.func52, Try.ntmps52
  go_wp2
  go_ret
  exact ⟨ret_bool Hv.out, hb0⟩
end Go.Proofs.Ytakoklldmdbphaa
