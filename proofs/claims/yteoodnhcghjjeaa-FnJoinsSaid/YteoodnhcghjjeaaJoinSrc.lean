/- Contracts of the drawn pictures and of the small helpers that the law FnJoins calls. -/
import Derived.Test.YteoodnhcghjjeaaJoinLaw
set_option linter.unusedVariables false
set_option linter.unusedSimpArgs false
namespace Go.Proofs.Yteoodnhcghjjeaa
open Go.RowKit

set_option maxHeartbeats 1000000 in
theorem b10Long_any (p q : Option Addr) (c d n m : Nat) (w : World) :
    Calls Try.prog 48 #[.slice p n c, .slice q m d] w fun e w' => e = .returned (.bool (decide (1048576 < n) || decide (1048576 < m))) ∧ w = w' := by
  by_cases h1 : 1048576 < n
  · go_enter Try.func48, Try.ntmps48
    go_wp2
    go_ret
    exact ⟨ret_bool (by simp [h1]), rfl⟩
  · by_cases h2 : 1048576 < m
    · go_enter Try.func48, Try.ntmps48
      go_wp2
      go_ret
      exact ⟨ret_bool (by rw [Bool.eq_iff_iff]; simp; omega), rfl⟩
    · go_enter Try.func48, Try.ntmps48
      go_wp2
      go_ret
      exact ⟨ret_bool (by rw [Bool.eq_iff_iff]; simp; omega), rfl⟩
set_option maxHeartbeats 1000000 in
theorem b10At_any (p : Option Addr) (c : Nat) (l : List Int) (k n : Nat) (ki ni : Int) (w : World) (hki : ki = k) (hni : ni = n) (hn : 2 ≤ n) (hn2 : n ≤ 1000000) (hk : k ≤ 1000000) (hl : l.length ≤ 1048576) (hr : Rd w p l.length (byteAt l)) (hby : ∀ x ∈ l, 0 ≤ x ∧ x ≤ 255) :
    Calls Try.prog 51 #[.slice p l.length c, .int .i64 ki, .int .i64 ni] w fun e w' => ∃ r : Nat, r < n ∧ e = .returned (.int .i64 r) ∧ w = w' := by
  subst hki hni
  have hn0 : (n : Int) ≠ 0 := by omega
  by_cases hlt : k < l.length
  · obtain ⟨pb, po, rfl, hb, hc⟩ := hr.at hlt
    have c3 := hc k hlt
    have hv := hby (l.getD k 0) (by simp [List.getD, List.getElem?_eq_getElem hlt])
    unfold byteAt at c3
    generalize l.getD k 0 = v at *
    obtain ⟨v, rfl⟩ := Int.eq_ofNat_of_zero_le hv.1
    obtain ⟨hv0, hv1⟩ := hv
    have ha0 : (0 : Int) ≤ (k : Int) := Int.natCast_nonneg _
    have ha1 : (k : Int) < (l.length : Int) := by omega
    have hm : Int.tmod (v : Int) (n : Int) = ((v % n : Nat) : Int) := by rw [Int.ofNat_tmod]
    have hlt2 := Nat.mod_lt v (show 0 < n by omega)
    have Hm := Lib.hid hm; clear hm
    clear hc hr hby
    go_enter Try.func51, Try.ntmps51
    go_wp2
    go_ret
    exact ⟨v % n, hlt2, ret_int (by first | exact Hm.out | rfl | omega), rfl⟩
  · have hm : Int.tmod ((k : Int) * 37 + 11) (n : Int) = (((k * 37 + 11) % n : Nat) : Int) := by rw [Int.natCast_emod, Int.tmod_eq_emod_of_nonneg (by omega)]; simp
    have hlt2 := Nat.mod_lt (k * 37 + 11) (show 0 < n by omega)
    have Hm := Lib.hid hm; clear hm
    go_enter Try.func51, Try.ntmps51
    go_wp2
    go_ret
    exact ⟨(k * 37 + 11) % n, hlt2, ret_int (by first | exact Hm.out | rfl | omega), rfl⟩
set_option maxHeartbeats 2000000 in
theorem b10Picture_any (p : Option Addr) (c : Nat) (l : List Int) (w : World) (hr : Rd w p l.length (byteAt l)) (hby : ∀ x ∈ l, 0 ≤ x ∧ x ≤ 255) (hl : l.length ≤ 1048576) :
    Calls Try.prog 49 #[.slice p l.length c] w fun e w' => ∃ p' c' W H f, e = .returned (.agg #[.slice p' H c']) ∧ Pic w' p' W H f ∧ Below w.heap.size w w' := by
  have hy := bl_alloc w (.cells #[.slice none 0 0] 28)
  have B := Box.new w (.slice none 0 0) 28
  have S := (Since.refl w).bl hy
  have cf := from_any p c l _ (hr.bl hy) hby hl
  simp only [World.size_alloc] at cf
  have Cf := Lib.hid cf; clear cf
  have Hby := Lib.hid hby; clear hby
  go_enter Try.func49, Try.ntmps49
  go_wp2_with fail
  with_reducible (refine Cf.out.mono ?_)
  rintro e w1 ⟨rfl, S0, hb0, hlt0⟩
  have T := S.bl (by rw [World.size_alloc]; exact hb0)
  have B1 := Box.bl B (by rw [World.size_alloc]; exact hb0)
  clear Cf hb0 S B hy
  generalize eb : w.heap.size + 1 = b at *
  have c1 := pick_any 7 b p c l 0 w1 (by omega) hl (by omega) S0
  have C1 := Lib.hid c1; clear c1
  have Eb := Lib.hid eb; clear eb
  go_wp2_with fail
  with_reducible (refine C1.out.mono ?_)
  rintro e w2 ⟨x, -, hx, rfl, S2, hg2⟩
  have hx1 := hx (by omega)
  have T2 := T.grown hg2 (by have := Eb.out; omega)
  have B2 := B1.grown hg2 (by intro e; cases e; have := Eb.out; omega)
  clear C1 S0 T B1 hg2 hx
  have c2 := pick_any 7 b p c l _ w2 (by omega) hl (by omega) S2
  have C2 := Lib.hid c2; clear c2
  go_wp2_with fail
  with_reducible (refine C2.out.mono ?_)
  rintro e w3 ⟨y, -, hy, rfl, S3, hg3⟩
  have hy1 := hy (by omega)
  have T3 := T2.grown hg3 (by have := Eb.out; omega)
  have B3 := B2.grown hg3 (by intro e; cases e; have := Eb.out; omega)
  clear C2 S2 T2 B2 hg3 hy
  have c3 := drawPic_any b (1 + x) (1 + y) p c l w3 (by omega) (by omega) (by omega) (by omega) hl (S3.more (by omega))
  have e1 : ((1 + x : Nat) : Int) = 1 + (x : Int) := by omega
  have e2 : ((1 + y : Nat) : Int) = 1 + (y : Int) := by omega
  rw [e1, e2] at c3
  have C3 := Lib.hid c3; clear c3
  have E1 := Lib.hid e1; clear e1
  have E2 := Lib.hid e2; clear e2
  go_wp2_with fail
  with_reducible (refine C3.out.mono ?_)
  rintro e w4 ⟨v, f, rfl, O, hg4⟩
  have T4 := T3.grown hg4 (by have := Eb.out; omega)
  have B4 := B3.grown hg4 (by intro e; cases e; have := Eb.out; omega)
  have f0 := B4.frozen
  have f1 := B4.cell
  have hlw := B3.lt
  have hge := O.ge
  obtain ⟨p', c', rfl⟩ := O.form
  have p4 := Pic.of_own (by omega) (by omega) (by omega) (by omega) (OwnStrs.set O (a := ⟨w.heap.size, 0, none⟩) hlw (.slice p' (render (1 + x) (1 + y) f).length c'))
  have e0 := (B4.set (.slice p' (render (1 + x) (1 + y) f).length c')).cell
  have t5 : Since w (w4.setCell ⟨w.heap.size, 0, none⟩ (.slice p' (render (1 + x) (1 + y) f).length c')) := ⟨T4.below.setCell (by simp) _⟩
  have hlen := render_len (1 + x) (1 + y) f
  rw [hlen] at p4 t5 e0 ⊢
  have P4 := Lib.hid p4; clear p4
  have T5 := Lib.hid t5; clear t5
  have Hlen := Lib.hid hlen; clear hlen
  have Hge := Lib.hid hge; clear hge
  clear B4 T4 T3 B3 hg4 O C3 S3
  go_wp2
  exact bodyPost_ret (v := .agg #[.slice p' (1 + y) c']) (by simp [results, Try.results49, go_sem, e0]) rfl ⟨_, _, _, _, f, rfl, P4.out, T5.out.below⟩
theorem width_pic (a : Nat) (q : Option Addr) (W H d : Nat) (g : Nat → Bool) (w : World) (hc : w.cell? ⟨a, 0, none⟩ = some (.slice q H d)) (P : Pic w q W H g) :
    Calls Try.prog 74 #[.pointer (some ⟨a, 0, none⟩)] w fun e w' => e = .returned (.int .i64 W) ∧ w = w' := by
  obtain ⟨a1, a2, a3, a4, a5⟩ := P.out
  have h := l01Width_any a q d (render W H g) w ⟨a4, by rw [render_len]; exact hc, a3⟩
  rwa [a5] at h
theorem height_pic (a : Nat) (q : Option Addr) (W H d : Nat) (g : Nat → Bool) (w : World) (hc : w.cell? ⟨a, 0, none⟩ = some (.slice q H d)) (P : Pic w q W H g) :
    Calls Try.prog 95 #[.pointer (some ⟨a, 0, none⟩)] w fun e w' => e = .returned (.int .i64 H) ∧ w = w' := by
  obtain ⟨a1, a2, a3, a4, a5⟩ := P.out
  have h := l01Height_any a q d (render W H g) w ⟨a4, by rw [render_len]; exact hc, a3⟩
  rwa [render_len] at h
set_option maxHeartbeats 2000000 in
theorem b10Like_any (p : Option Addr) (c : Nat) (l : List Int) (q : Option Addr) (d W H : Nat) (g : Nat → Bool) (w : World) (hr : Rd w p l.length (byteAt l)) (hby : ∀ x ∈ l, 0 ≤ x ∧ x ≤ 255) (hl : l.length ≤ 1048576) (P : Pic w q W H g) :
    Calls Try.prog 50 #[.slice p l.length c, .agg #[.slice q H d]] w fun e w' => ∃ p' c' f, e = .returned (.agg #[.slice p' H c']) ∧ Pic w' p' W H f ∧ Below w.heap.size w w' := by
  have hy1 := bl_alloc w (.cells #[.slice q H d] 28)
  have hy2 := bl_alloc (w.alloc (.cells #[.slice q H d] 28)) (.cells #[.slice none 0 0] 28)
  have A := (Box.new w (.slice q H d) 28).alloc (.cells #[.slice none 0 0] 28)
  have B := Box.new (w.alloc (.cells #[.slice q H d] 28)) (.slice none 0 0) 28
  have S := ((Since.refl w).bl hy1).bl hy2
  have Q := (P.bl hy1).bl hy2
  have cf := from_any p c l _ ((hr.bl hy1).bl hy2) hby hl
  simp only [World.size_alloc] at cf B
  have Cf := Lib.hid cf; clear cf
  have Hby := Lib.hid hby; clear hby
  go_enter Try.func50, Try.ntmps50
  go_wp2_with fail
  with_reducible (refine Cf.out.mono ?_)
  rintro e w1 ⟨rfl, S0, hb0, hlt0⟩
  have T := S.bl (by rw [World.size_alloc, World.size_alloc]; exact hb0)
  have B1 := Box.bl B (by rw [World.size_alloc, World.size_alloc]; exact hb0)
  have A1 := Box.bl A (by rw [World.size_alloc, World.size_alloc]; exact hb0)
  have Q1 := Q.bl (by rw [World.size_alloc, World.size_alloc]; exact hb0)
  clear Cf hb0 S B hy1 hy2 A Q
  generalize eb : w.heap.size + 1 + 1 = b at *
  have cw := width_pic w.heap.size q W H d g w1 A1.cell Q1
  have ch := height_pic w.heap.size q W H d g w1 A1.cell Q1
  have c3 := drawPic_any b W H p c l w1 Q1.w1 Q1.w2 Q1.h1 Q1.h2 hl (S0.more (by omega))
  have C3 := Lib.hid c3; clear c3
  have Eb := Lib.hid eb; clear eb
  have Cw := Lib.hid cw; clear cw
  have Ch := Lib.hid ch; clear ch
  go_wp2_with fail
  with_reducible (refine Cw.out.mono ?_)
  rintro e w2 ⟨rfl, rfl⟩
  go_wp2_with fail
  with_reducible (refine Ch.out.mono ?_)
  rintro e w2 ⟨rfl, rfl⟩
  go_wp2_with fail
  with_reducible (refine C3.out.mono ?_)
  rintro e w4 ⟨v, f, rfl, O, hg4⟩
  have T4 := T.grown hg4 (by have := Eb.out; omega)
  have B4 := B1.grown hg4 (by intro e; cases e; have := Eb.out; omega)
  have f0 := B4.frozen
  have f1 := B4.cell
  have hlw := B1.lt
  have hge := O.ge
  obtain ⟨p', c', rfl⟩ := O.form
  have p4 := Pic.of_own Q1.w1 Q1.w2 Q1.h1 Q1.h2 (OwnStrs.set O (a := ⟨w.heap.size + 1, 0, none⟩) hlw (.slice p' (render W H f).length c'))
  have e0 := (B4.set (.slice p' (render W H f).length c')).cell
  have t5 : Since w (w4.setCell ⟨w.heap.size + 1, 0, none⟩ (.slice p' (render W H f).length c')) := ⟨T4.below.setCell (by simp) _⟩
  have hlen := render_len W H f
  rw [hlen] at p4 t5 e0 ⊢
  have P4 := Lib.hid p4; clear p4
  have T5 := Lib.hid t5; clear t5
  have Hlen := Lib.hid hlen; clear hlen
  have Hge := Lib.hid hge; clear hge
  clear B4 T4 B1 hg4 O C3 A1
  go_wp2
  exact bodyPost_ret (v := .agg #[.slice p' H c']) (by simp [results, Try.results50, go_sem, e0]) rfl ⟨_, _, f, rfl, P4.out, T5.out.below⟩
end Go.Proofs.Yteoodnhcghjjeaa
