/- Contracts of the drawn square and of a number that an input chooses. -/
import Derived.Test.YtnenogpagkepfaaLeafSq
import Derived.Test.YtnenogpagkepfaaR8S
set_option linter.unusedVariables false
set_option linter.unusedSimpArgs false
namespace Go.Proofs.Ytnenogpagkepfaa
open Go.RowKit

set_option maxRecDepth 100000 in
set_option maxHeartbeats 2000000 in
theorem r8Square_any (p : Option Addr) (c : Nat) (l : List Int) (w : World) (hr : Rd w p l.length (byteAt l)) (hby : ∀ x ∈ l, 0 ≤ x ∧ x ≤ 255) (hl : l.length ≤ 1048576) :
    Calls Try.prog 38 #[.slice p l.length c] w fun e w' => ∃ p' c' k N f, k ≤ 4 ∧ 2 ^ k = N ∧ e = .returned (.agg #[.slice p' N c']) ∧ Rd w' p' N (strAt (render N N f)) ∧ Below w.heap.size w w' := by
  have hy := bl_alloc w (.cells #[.slice none 0 0] 38)
  have B := Box.new w (.slice none 0 0) 38
  have S := (Since.refl w).bl hy
  have cf := from_any p c l _ (hr.bl hy) hby hl
  simp only [World.size_alloc] at cf
  have Cf := Lib.hid cf; clear cf
  have Hby := Lib.hid hby; clear hby
  go_enter Try.func38, Try.ntmps38
  go_wp2_with fail
  with_reducible (refine Cf.out.mono ?_)
  rintro e w1 ⟨rfl, S0, hb0, hlt0⟩
  have T := S.bl (by rw [World.size_alloc]; exact hb0)
  have B1 := Box.bl B (by rw [World.size_alloc]; exact hb0)
  clear Cf hb0 S B hy
  generalize eb : w.heap.size + 1 = b at *
  have c1 := drawSide_any b p c l 0 w1 (by omega) hl S0
  have C1 := Lib.hid c1; clear c1
  have Eb := Lib.hid eb; clear eb
  go_wp2_with fail
  with_reducible (refine C1.out.mono ?_)
  rintro e w2 ⟨k, hk, rfl, S2, hg2⟩
  have T2 := T.grown hg2 (by have := Eb.out; omega)
  have B2 := B1.grown hg2 (by intro e; cases e; have := Eb.out; omega)
  clear C1 S0 T B1 hg2
  have hp := (show 1 ≤ 2 ^ k ∧ 2 ^ k ≤ 16 by
    have : k = 0 ∨ k = 1 ∨ k = 2 ∨ k = 3 ∨ k = 4 := by omega
    rcases this with rfl | rfl | rfl | rfl | rfl <;> decide)
  have c3 := drawSquare_any b (2 ^ k) p c l w2 hp.1 hp.2 hl (S2.more (by omega))
  obtain ⟨z, ez⟩ : ∃ z : Int, ((2 ^ k : Nat) : Int) = z := ⟨_, rfl⟩
  rw [ez] at c3
  rw [ez]
  have C3 := Lib.hid c3; clear c3
  have Ez := Lib.hid ez; clear ez
  have Hp := Lib.hid hp; clear hp
  go_wp2_with fail
  with_reducible (refine C3.out.mono ?_)
  rintro e w4 ⟨v, f, rfl, O, hg4⟩
  have T4 := T2.grown hg4 (by have := Eb.out; omega)
  have B4 := B2.grown hg4 (by intro e; cases e; have := Eb.out; omega)
  have f0 := B4.frozen
  have f1 := B4.cell
  have hlw := B2.lt
  obtain ⟨p', c', rfl⟩ := O.form
  have hrl := render_len (2 ^ k) (2 ^ k) f
  obtain ⟨N, eN⟩ : ∃ N, 2 ^ k = N := ⟨_, rfl⟩
  rw [eN] at O hrl
  rw [eN, hrl]
  have p4 := (OwnStrs.set O (a := ⟨w.heap.size, 0, none⟩) hlw (.slice p' (render N N f).length c')).rd
  rw [hrl] at p4
  have e0 := (B4.set (.slice p' N c')).cell
  have t5 : Since w (w4.setCell ⟨w.heap.size, 0, none⟩ (.slice p' N c')) := ⟨T4.below.setCell (by simp) _⟩
  have P4 := Lib.hid p4; clear p4
  have T5 := Lib.hid t5; clear t5
  have EN := Lib.hid eN; clear eN
  have Hrl := Lib.hid hrl; clear hrl
  clear B4 T4 T2 B2 hg4 O C3 S2
  go_wp2
  exact bodyPost_ret (v := .agg #[.slice p' N c']) (by simp [results, Try.results38, go_sem, e0]) rfl ⟨p', c', k, N, f, hk, EN.out, rfl, P4.out, T5.out.below⟩
set_option maxRecDepth 100000 in
set_option maxHeartbeats 1000000 in
theorem r8At1_any (p : Option Addr) (c : Nat) (l : List Int) (k n : Nat) (ki ni : Int) (w : World) (hki : ki = k) (hni : ni = n) (hn : 1 ≤ n) (hn2 : n ≤ 1000000) (hk : k ≤ 1000000) (hl : l.length ≤ 1048576) (hr : Rd w p l.length (byteAt l)) (hby : ∀ x ∈ l, 0 ≤ x ∧ x ≤ 255) :
    Calls Try.prog 40 #[.slice p l.length c, .int .i64 ki, .int .i64 ni] w fun e w' => ∃ r : Nat, r < n ∧ e = .returned (.int .i64 r) ∧ w = w' := by
  by_cases h2 : 2 ≤ n
  · exact r8At_any p c l k n ki ni w hki hni h2 hn2 hk hl hr hby
  · obtain rfl : n = 1 := by omega
    have hn1 : ni = 1 := by omega
    clear hr hby h2 hn hn2 hl hk hni
    subst hn1 hki
    go_enter Try.func40, Try.ntmps40
    go_wp2
    go_ret
    exact ⟨0, by omega, rfl, rfl⟩
end Go.Proofs.Ytnenogpagkepfaa
