/- Contracts of the drawn spots and of a number that an input chooses. -/
import Derived.Test.YtakoklldmdbphaaSrc
import Derived.Test.YtakoklldmdbphaaSpots
set_option linter.unusedVariables false
namespace Go.Proofs.Ytakoklldmdbphaa
open Go.RowKit

set_option maxHeartbeats 1000000 in
theorem r8At_any (p : Option Addr) (c : Nat) (l : List Int) (k n : Nat) (ki ni : Int) (w : World) (hki : ki = k) (hni : ni = n) (hn : 2 ≤ n) (hn2 : n ≤ 1000000) (hk : k ≤ 1000000) (hl : l.length ≤ 1048576) (hr : Rd w p l.length (byteAt l)) (hby : ∀ x ∈ l, 0 ≤ x ∧ x ≤ 255) :
    Calls Try.prog 34 #[.slice p l.length c, .int .i64 ki, .int .i64 ni] w fun e w' => ∃ r : Nat, r < n ∧ e = .returned (.int .i64 r) ∧ w = w' := by
  subst hki hni
  by_cases hlt : k < l.length
  · obtain ⟨pb, po, rfl, hb, hc⟩ := hr.at hlt
    have c3 := hc k hlt
    have hv := hby (l.getD k 0) (by simp [List.getD, List.getElem?_eq_getElem hlt])
    unfold byteAt at c3
    generalize l.getD k 0 = v at *
    obtain ⟨v, rfl⟩ := Int.eq_ofNat_of_zero_le hv.1
    obtain ⟨hv0, hv1⟩ := hv
    have ha0 : (0 : Int) ≤ (k : Int) := Int.natCast_nonneg _
    have ha1 : (k : Int) < (l.length : Int) := by omega
    have hn0 : (n : Int) ≠ 0 := by omega
    have hm : Int.tmod (v : Int) (n : Int) = ((v % n : Nat) : Int) := by rw [Int.ofNat_tmod]
    have hlt2 := Nat.mod_lt v (show 0 < n by omega)
    have Hm := Lib.hid hm; clear hm
    clear hc hr hby
    go_enter Try.func34, Try.ntmps34
    go_wp2
    go_ret
    exact ⟨v % n, hlt2, ret_int (by first | exact Hm.out | rfl | omega), rfl⟩
  · go_enter Try.func34, Try.ntmps34
    go_wp2
    go_ret
    exact ⟨0, by omega, rfl, rfl⟩
set_option maxHeartbeats 1000000 in
theorem r8Long_any (p q : Option Addr) (c d n m : Nat) (w : World) :
    Calls Try.prog 33 #[.slice p n c, .slice q m d] w fun e w' => e = .returned (.bool (decide (48 < n) || decide (48 < m))) ∧ w = w' := by
  by_cases h1 : 48 < n
  · go_enter Try.func33, Try.ntmps33
    go_wp2
    go_ret
    exact ⟨ret_bool (by simp [h1]), rfl⟩
  · by_cases h2 : 48 < m
    · go_enter Try.func33, Try.ntmps33
      go_wp2
      go_ret
      exact ⟨ret_bool (by rw [Bool.eq_iff_iff]; simp; omega), rfl⟩
    · go_enter Try.func33, Try.ntmps33
      go_wp2
      go_ret
      exact ⟨ret_bool (by rw [Bool.eq_iff_iff]; simp; omega), rfl⟩
/-- The drawn spots so far: k more to come. -/
structure SpRel (W : Nat) (b : Nat) (p : Option Addr) (c : Nat) (bs : List Int) (w : World) (k : Nat) (l : List (Int × Int)) (v : Value) (wr : World) : Prop where
  own : OwnSpots (b + 1) wr v l
  len : l.length + k ≤ 12
  src : Src wr b p c bs (2 + 4 * l.length)
  ins : ∀ s ∈ l, (0 ≤ s.1 ∧ s.1 < W) ∧ (0 ≤ s.2 ∧ s.2 < W)
  since : Since w wr
set_option maxHeartbeats 4000000 in
theorem r8Spots_any (p : Option Addr) (c : Nat) (bs : List Int) (W : Nat) (w : World) (hW : 1 ≤ W) (hW2 : W ≤ 100) (hr : Rd w p bs.length (byteAt bs)) (hby : ∀ x ∈ bs, 0 ≤ x ∧ x ≤ 255) (hl : bs.length ≤ 1048576) :
    Calls Try.prog 35 #[.slice p bs.length c, .int .i64 W] w fun e w' => ∃ v l, e = .returned v ∧ OwnSpots w.heap.size w' v l ∧ l.length ≤ 12 ∧ (∀ s ∈ l, (0 ≤ s.1 ∧ s.1 < (W : Int)) ∧ (0 ≤ s.2 ∧ s.2 < (W : Int))) ∧ Below w.heap.size w w' := by
  have cf := from_any p c bs w hr hby hl
  have Cf := Lib.hid cf; clear cf
  have Hby := Lib.hid hby; clear hby
  go_enter Try.func35, Try.ntmps35
  go_wp2_with fail
  refine Cf.out.mono ?_
  rintro e w1 ⟨rfl, S0, hb0, hlt0⟩
  generalize eb : w.heap.size = b at *
  have O0 := World.ownsRow_made (base := b + 1) (e := 27) (size := 2) w1 #[] 0 (by omega) (by decide) rfl
  replace S0 := S0.bl (bl_alloc w1 (.cells #[] 27))
  have T0 : Since w (w1.alloc (.cells #[] 27)) := by
    refine ⟨?_⟩
    rw [eb]
    exact hb0.alloc (by omega) _
  have cp := pick_any 13 b p c bs 0 (w1.alloc (.cells #[] 27)) (by omega) hl (by omega) S0
  have Cp := Lib.hid cp; clear cp
  have S0 := Lib.hid S0; clear S0
  have Hb0 := Lib.hid hb0; clear hb0
  go_wp2_with fail
  refine Cp.out.mono ?_
  rintro e w2 ⟨r, -, hr13, rfl, S2, hg2⟩
  have hr12 : r ≤ 12 := by have := hr13 (by omega); omega
  have r0 : SpRel W b p c bs w r [] (.slice (some ⟨w1.heap.size, 0, none⟩) 0 0) w2 := by
    refine ⟨⟨_, _, rfl, O0.kept hg2 (.inr (by simp [Value.ownBlock]; omega))⟩, by simp; omega, S2, by simp, ?_⟩
    exact T0.grown hg2 (by omega)
  clear O0 T0 S0 hg2 hr13 S2 Cp
  have R0 := Lib.hid r0; clear r0
  go_wp2
  go_loopw [6, 7] (fun v i wr => ∃ (k : Nat) (l : List (Int × Int)), k ≤ 12 ∧ i = .int .i64 k ∧ SpRel W b p c bs w k l v wr) (fun _ i _ => (intOf i).toNat)
  case atStart => exact ⟨r, [], hr12, rfl, R0.out⟩
  case round =>
    clear R0
    obtain ⟨k, l, hk, rfl, rr⟩ := hrel
    have hbw : b < wr.heap.size := rr.src.lt
    obtain ⟨q, d, rfl, hown⟩ := rr.own
    by_cases hk0 : 0 < k
    · have hll := rr.len
      have c1 := pick_any (W : Int) b p c bs (2 + 4 * l.length) wr (by omega) hl (by omega) rr.src
      have C1 := Lib.hid c1; clear c1
      have Rr := Lib.hid rr; clear rr
      have Hown := Lib.hid hown; clear hown
      go_wp2_with fail
      refine C1.out.mono ?_
      rintro e w3 ⟨x, -, hx, rfl, S3, hg3⟩
      have hx' := hx (by omega)
      have hb3 := S3.lt
      have hown3 := Hown.out.kept hg3 (by
        by_cases h : (Value.slice q l.length d).ownBlock = none
        · exact .inl h
        · refine .inr (fun e => ?_)
          have := own_ge Hown.out b e
          omega)
      have T3 := Rr.out.since.grown hg3 (by omega)
      have A3 := S3.bl (bl_alloc w3 (.cells #[.int .i64 x, .int .i64 0] 27))
      have B3 := Blk.new w3 #[.int .i64 x, .int .i64 0] 27
      have hown4 := own_below hown3 (bl_alloc w3 (.cells #[.int .i64 x, .int .i64 0] 27)) (Nat.le_refl _)
      have T4 := T3.alloc (.cells #[.int .i64 x, .int .i64 0] 27)
      have c2 := pick_any (W : Int) b p c bs (2 + 4 * l.length + 2) _ (by omega) hl (by omega) A3
      have C2 := Lib.hid c2; clear c2
      clear C1 Hown A3
      go_wp2_with fail
      refine C2.out.mono ?_
      rintro e w4 ⟨y, -, hy, rfl, S4, hg4⟩
      have hy' := hy (by omega)
      have hb4 := S4.lt
      have hlt3 := fun k h => (hown3.lt k h).2
      generalize w3.heap.size = g3 at *
      have B4 := B3.grown hg4 (by intro e; cases e; omega)
      have hown5 := hown4.kept hg4 (by
        by_cases h : (Value.slice q l.length d).ownBlock = none
        · exact .inl h
        · refine .inr (fun e => ?_)
          have := own_ge hown4 b e
          omega)
      have T5 := T4.grown hg4 (by omega)
      have f1 := B4.frozen 1
      have B5 := B4.set 1 (.int .i64 y)
      have k0 : (w4.setCell ⟨g3, 1, none⟩ (.int .i64 y)).cell? ⟨g3, 0, none⟩ = some (.int .i64 x) := B5.cell 0 rfl
      have k1 : (w4.setCell ⟨g3, 1, none⟩ (.int .i64 y)).cell? ⟨g3, 1, none⟩ = some (.int .i64 y) := B5.cell 1 rfl
      have k2 : w4.cell? ⟨g3, 1, none⟩ = some (.int .i64 0) := B4.cell 1 rfl
      have hns : some g3 ≠ (Value.slice q l.length d).ownBlock := fun e => by
        have := hlt3 g3 e.symm
        omega
      have hown6 := own_other hown5 (a := ⟨g3, 1, none⟩) hns (.int .i64 y)
      have S5 := S4.under (B := b + 1) ((Below.refl (b + 1) w4).setCell (p := ⟨g3, 1, none⟩) (by simp; omega) (.int .i64 y)) (by omega)
      have T6 : Since w (w4.setCell ⟨g3, 1, none⟩ (.int .i64 y)) := ⟨T5.below.setCell (by simp; omega) _⟩
      have hbs : b + 1 ≤ (w4.setCell ⟨g3, 1, none⟩ (.int .i64 y)).heap.size := by simp; omega
      clear hlt3 hown3 hown4 hown5 T3 T4 T5 B3 B4 hg3 hg4 S4 C2 hx hy
      have hins := Rr.out.ins
      have hfin : ∀ g' cap w6, w6.ownsRow (b + 1) 27 2 (.slice (some ⟨g', 0, none⟩) (l.length + 1) cap) (l.length + 1) (spotCells l ++ [.int .i64 x, .int .i64 y]) → (w4.setCell ⟨g3, 1, none⟩ (.int .i64 y)).grownBy w6 (Value.slice q l.length d).ownBlock →
          SpRel W b p c bs w (k - 1) (l ++ [((x : Int), (y : Int))]) (.slice (some ⟨g', 0, none⟩) (l.length + 1) cap) w6 := by
        intro g' cap w6 h1 h2
        have hr : ∀ k, (Value.slice q l.length d).ownBlock = some k → b < k := fun k h => own_ge hown6 k h
        refine ⟨⟨some ⟨g', 0, none⟩, cap, by simp, ?_⟩, by simp; omega, ?_, ?_, ?_⟩
        · rw [spotCells_snoc]
          simpa using h1
        · have := S5.grow h2 hr
          exact this.more (by simp; omega)
        · intro s hs
          rcases List.mem_append.1 hs with h | h
          · exact hins s h
          · simp only [List.mem_singleton] at h
            subst h
            exact ⟨⟨by omega, by omega⟩, by omega, by omega⟩
        · exact ⟨T6.below.grown h2 (by have := T6.size; exact this) (fun k h => by have := hr k h; omega)⟩
      clear S5 T6 hins B5
      have Hfin := Lib.hid hfin; clear hfin
      have Hns := Lib.hid hns; clear hns
      go_wp2_with ((at_builtin; refine wpList_pushA w4.heap.size (by simp) rfl _ _ 51 rfl (b + 1) 27 (.agg #[.int .i64 0, .int .i64 0]) 2 16 Try.underlying51 info_spot rfl (by decide) (.slice q l.length d) l.length _ rfl hown6 _ 1 rfl rfl (one_spot _ _) (by omega) (by simp [maxLen]; omega) hbs ?_; intro g' cap w6 hown7 hgr hat hlt2))
      have r9 := Hfin.out g' cap w6 hown7 hgr
      have R9 := Lib.hid r9; clear r9
      go_roundw
      case rel => exact ⟨k - 1, _, by omega, by go_num, R9.out⟩
      case measure => simp [intOf]; omega
    · obtain rfl : k = 0 := by omega
      have ho := rr.own.mono (show b ≤ b + 1 by omega)
      have hlen := rr.len
      have hins := rr.ins
      have hbl := rr.since.below
      rw [eb] at hbl
      have Ho := Lib.hid ho; clear ho
      have Hins := Lib.hid hins; clear hins
      have Hbl := Lib.hid hbl; clear hbl
      clear rr hown
      go_wp2
      go_ret
      rw [eb]
      exact ⟨_, _, rfl, Ho.out, by omega, Hins.out, Hbl.out⟩
end Go.Proofs.Ytakoklldmdbphaa
