/- Contracts of the laws' helpers over grey pictures: sizes, copies, equality. -/
import Derived.Test.YtedgjcmimdblgaaLawInts
set_option linter.unusedVariables false
set_option linter.unusedSimpArgs false
namespace Go.Proofs.Ytedgjcmimdblgaa
open Go.RowKit

theorem lenTo_mem {L : List (List Int)} {l : List Int} (h : l ∈ L) : l.length ≤ lenTo L L.length := by
  obtain ⟨i, hi, rfl⟩ := List.getElem_of_mem h
  have h1 := lenTo_succ L i hi
  have h2 := lenTo_le L (i + 1) hi
  have h3 : (L.getD i []) = L[i] := by simp [List.getD, List.getElem?_eq_getElem hi]
  rw [h3] at h1
  omega
/-- What a size that is not too great tells. -/
def SzOk (L : List (List Int)) (left r : Int) : Prop := r < 0 ∨ (0 ≤ r ∧ r ≤ left ∧ L.length ≤ 1048576 ∧ (∀ l ∈ L, l.length ≤ 1048576) ∧ lenTo L L.length ≤ 1048576)
set_option maxHeartbeats 1000000 in
theorem szInt64SS_any (p : Option Addr) (c : Nat) (L : List (List Int)) (left : Int) (w : World) (hn : L.length ≤ maxLen) (hs : ∀ l ∈ L, l.length ≤ maxLen) (h0 : 0 ≤ left) (h1 : left ≤ 1048576) (hr : RdSS w p L) :
    Calls Try.prog 14 #[.slice p L.length c, .int .i64 left] w fun e w' => ∃ r, e = .returned (.int .i64 r) ∧ SzOk L left r ∧ w = w' := by
  unfold maxLen at hn
  by_cases hlt : left - L.length < 0
  · go_enter Try.func14, Try.ntmps14
    go_wp2
    go_ret
    exact ⟨-1, rfl, .inl (by omega), rfl⟩
  · obtain ⟨vs, hrv, hri⟩ := hr
    have Hs := Lib.hid hs; clear hs
    go_enter Try.func14, Try.ntmps14
    go_wp2
    go_loop [1, 5] (fun l i => ∃ (k : Nat) (cur : Int), k ≤ L.length ∧ i = .int .i64 k ∧ l = .int .i64 cur ∧ 0 ≤ cur ∧ cur + lenTo L k + L.length = left) (fun _ i => L.length - (intOf i).toNat)
    case atStart => exact ⟨0, _, Nat.zero_le _, rfl, rfl, by omega, by simp [lenTo]⟩
    case round =>
      obtain ⟨k, cur, hk, rfl, rfl, hc0, hc1⟩ := hrel
      by_cases hkn : k < L.length
      · obtain ⟨b, o, rfl, hb, hc⟩ := hrv.at hkn
        have hck := hc k hkn
        obtain ⟨q1, c1, e1, r1⟩ := hri k hkn
        rw [e1] at hck
        have hmem : L.getD k [] ∈ L := by simp [List.getD, List.getElem?_eq_getElem hkn]
        have hsz := Hs.out _ hmem
        have hsu := lenTo_succ L k hkn
        obtain ⟨n, en⟩ : ∃ n, (L.getD k []).length = n := ⟨_, rfl⟩
        rw [en] at hck hsz hsu
        have cz := szInt64S_any q1 n c1 cur w hsz hc0 (by omega)
        have hk0 : (0 : Int) ≤ (k : Int) := Int.natCast_nonneg _
        have hk1 : (k : Int) < (L.length : Int) := by omega
        unfold maxLen at hsz
        by_cases hst : cur - n < 0
        · rw [if_pos hst] at cz
          have Cz := Lib.hid cz; clear cz
          have Hc := Lib.hid hc; clear hc
          have E1 := Lib.hid e1; clear e1
          have En := Lib.hid en; clear en
          have Hc1 := Lib.hid hc1; clear hc1
          have Hsu := Lib.hid hsu; clear hsu
          clear hri hrv r1 Hs
          go_wp2_with fail
          with_reducible (refine Cz.out.mono ?_)
          rintro e w1 ⟨rfl, rfl⟩
          go_wp2
          go_ret
          exact ⟨-1, rfl, .inl (by omega), rfl⟩
        · rw [if_neg hst] at cz
          have Cz := Lib.hid cz; clear cz
          have Hc := Lib.hid hc; clear hc
          have E1 := Lib.hid e1; clear e1
          have En := Lib.hid en; clear en
          have Hc1 := Lib.hid hc1; clear hc1
          have Hsu := Lib.hid hsu; clear hsu
          clear hri hrv r1 Hs
          go_wp2_with fail
          with_reducible (refine Cz.out.mono ?_)
          rintro e w1 ⟨rfl, rfl⟩
          go_wp2
          go_round
          case rel => exact ⟨k + 1, _, by omega, by go_num, rfl, by omega, by rw [Hsu.out]; have := Hc1.out; omega⟩
          case measure => simp [intOf]; omega
      · obtain rfl : k = L.length := by omega
        have hz : SzOk L left cur := by
          have hle : lenTo L L.length ≤ 1048576 := by omega
          exact .inr ⟨by omega, by omega, by omega, fun l hl => Nat.le_trans (lenTo_mem hl) hle, hle⟩
        have Hz := Lib.hid hz; clear hz
        have Hc1 := Lib.hid hc1; clear hc1
        go_wp2
        go_ret
        exact ⟨_, rfl, Hz.out, rfl⟩
set_option maxHeartbeats 1000000 in
theorem szGrey_any (p : Option Addr) (c : Nat) (L : List (List Int)) (left : Int) (w : World) (hn : L.length ≤ maxLen) (hs : ∀ l ∈ L, l.length ≤ maxLen) (h0 : 0 ≤ left) (h1 : left ≤ 1048576) (hr : RdSS w p L) :
    Calls Try.prog 5 #[.agg #[.slice p L.length c], .int .i64 left] w fun e w' => ∃ r, e = .returned (.int .i64 r) ∧ SzOk L left r ∧ Below w.heap.size w w' := by
  have hy := bl_alloc w (.cells #[.slice p L.length c] 24)
  have B := (Box.new w (.slice p L.length c) 24).cell
  have cz := szInt64SS_any p c L left _ hn hs h0 h1 (hr.bl hy)
  have Cz := Lib.hid cz; clear cz
  clear hs hr
  go_enter Try.func5, Try.ntmps5
  go_wp2_with fail
  with_reducible (refine Cz.out.mono ?_)
  rintro e w1 ⟨r, rfl, hz, rfl⟩
  by_cases hr0 : r < 0
  · go_wp2
    go_ret
    exact ⟨-1, rfl, .inl (by omega), hy⟩
  · go_wp2
    go_ret
    exact ⟨r, rfl, hz, hy⟩
theorem OwnInts.of_row {B : Nat} {w : World} {g : Nat} {l : List Int} (h : w.rowIs g 2 l.length (intAt l)) (hB : B ≤ g) (hn : l.length ≤ 1048576) : OwnInts B w (.slice (some ⟨g, 0, none⟩) l.length l.length) l := by
  obtain ⟨cur, hg, hs, hf⟩ := h
  refine ⟨_, _, rfl, by rw [intCells_len, Nat.mul_one], .inr ⟨g, l.length, cur, rfl, hB, hg, Nat.le_refl _, by simp [maxLen]; omega, by omega, ?_⟩⟩
  rw [Nat.mul_one]
  apply List.ext_getElem?
  intro i
  by_cases hi : i < l.length
  · rw [List.getElem?_take, if_pos (by omega), Array.getElem?_toList, hf i hi, List.getElem?_eq_getElem (by rw [intCells_len]; exact hi), intCells_at]
  · rw [List.getElem?_eq_none (by simp; omega), List.getElem?_eq_none (by rw [intCells_len]; omega)]
theorem Since.setG {w a : World} (h : Since w a) {p : Addr} (hb : w.heap.size ≤ p.block) (v : Value) : Since w (a.setCell p v) := ⟨h.below.setCell hb _⟩
/-- While the rows are copied: k of them are there. -/
structure ToRel (w : World) (g : Nat) (L : List (List Int)) (k : Nat) (wr : World) : Prop where
  some : ∃ vs : Nat → Value, wr.rowIs g 40 L.length (fun i => if i < k then vs i else .slice none 0 0) ∧ (∀ i, i < k → OwnInts (g + 1) wr (vs i) (L.getD i [])) ∧ (∀ i j, i < k → j < k → i ≠ j → ∀ b, (vs i).ownBlock = Option.some b → (vs j).ownBlock ≠ Option.some b)
  ge : w.heap.size ≤ g
  lt : g < wr.heap.size
  since : Since w wr
theorem ToRel.step {w wr w1 : World} {g : Nat} {L : List (List Int)} {k g' : Nat} (h : ToRel w g L k wr) (hb : Below wr.heap.size wr w1) (hk : k < L.length) (hg' : wr.heap.size ≤ g') (hr : w1.rowIs g' 2 (L.getD k []).length (intAt (L.getD k []))) (hl : (L.getD k []).length ≤ 1048576) :
    ToRel w g L (k + 1) (w1.setCell ⟨g, k, none⟩ (.slice (Option.some ⟨g', 0, none⟩) (L.getD k []).length (L.getD k []).length)) := by
  obtain ⟨⟨vs, h1, h2, h3⟩, hge, hlt, S⟩ := h
  have hsz := hb.size
  have O := OwnInts.of_row (B := g + 1) hr (by omega) hl
  have r1 : w1.rowIs g 40 L.length (fun i => if i < k then vs i else .slice none 0 0) := by
    obtain ⟨cur, e1, e2, e3⟩ := h1
    exact ⟨cur, (hb.block g hlt).trans e1, e2, e3⟩
  have hset : ∀ v l, OwnInts (g + 1) w1 v l → OwnInts (g + 1) (w1.setCell ⟨g, k, none⟩ (.slice (Option.some ⟨g', 0, none⟩) (L.getD k []).length (L.getD k []).length)) v l := fun v l h => by
    obtain ⟨p, c, hv, ho⟩ := h
    exact ⟨p, c, hv, own_set ho (a := ⟨g, k, none⟩) (by simp) _⟩
  refine ⟨⟨fun i => if i = k then .slice (Option.some ⟨g', 0, none⟩) (L.getD k []).length (L.getD k []).length else vs i, ?_, ?_, ?_⟩, hge, by simp; omega, (S.bl hb).setG (by simp; omega) _⟩
  · refine (r1.set k _).congr (fun i _ => ?_)
    by_cases e : i = k
    · subst e; simp
    · by_cases l : i < k
      · simp [e, l, show i < k + 1 by omega]
      · simp [e, l, show ¬ i < k + 1 by omega]
  · intro i hi
    by_cases e : i = k
    · subst e
      simp only [if_pos rfl]
      exact hset _ _ O
    · simp only [if_neg e]
      exact hset _ _ ((h2 i (by omega)).bl hb)
  · intro i j hi hj hij b hbi hbj
    have hin : ∀ i, i < k → ∀ b, (vs i).ownBlock = Option.some b → b < wr.heap.size := fun i hi b hb => ((h2 i hi).ge b hb).2
    by_cases e : i = k
    · subst e
      simp only [if_pos rfl] at hbi
      simp only [if_neg (Ne.symm hij)] at hbj
      have := hin j (by omega) b hbj
      have e2 : Option.some g' = Option.some b := hbi
      cases e2
      omega
    · simp only [if_neg e] at hbi
      by_cases e2 : j = k
      · subst e2
        simp only [if_pos rfl] at hbj
        have := hin i (by omega) b hbi
        have e3 : Option.some g' = Option.some b := hbj
        cases e3
        omega
      · simp only [if_neg e2] at hbj
        exact h3 i j (by omega) (by omega) hij b hbi hbj
theorem ToRel.done {w wr : World} {g : Nat} {L : List (List Int)} (h : ToRel w g L L.length wr) (hn : L.length ≤ 1048576) : OwnSS w.heap.size wr (.slice (Option.some ⟨g, 0, none⟩) L.length L.length) L := by
  obtain ⟨⟨vs, h1, h2, h3⟩, hge, hlt, S⟩ := h
  obtain ⟨cur, e1, e2, e3⟩ := h1
  refine ⟨vs, ⟨_, _, rfl, by simp, .inr ⟨g, L.length, cur, rfl, hge, e1, Nat.le_refl _, by simp [maxLen]; omega, by omega, ?_⟩⟩, fun i hi => (h2 i hi).mono (by omega), h3, ?_⟩
  · apply List.ext_getElem?
    intro i
    by_cases hi : i < L.length
    · rw [List.getElem?_take, if_pos (by simpa using hi), Array.getElem?_toList, e3 i hi]
      simp [hi]
    · rw [List.getElem?_eq_none (by simp; omega), List.getElem?_eq_none (by simp; omega)]
  · intro i hi k hk e
    have := ((h2 i hi).ge k hk).1
    have e3 : Option.some g = Option.some k := e
    cases e3
    omega
set_option maxHeartbeats 1000000 in
theorem toInt64SS_any (p : Option Addr) (c : Nat) (L : List (List Int)) (w : World) (hn : L.length ≤ 1048576) (hs : ∀ l ∈ L, l.length ≤ 1048576) (hr : RdSS w p L) :
    Calls Try.prog 16 #[.slice p L.length c] w fun e w' => ∃ g, e = .returned (.slice (some ⟨g, 0, none⟩) L.length L.length) ∧ OwnSS w.heap.size w' (.slice (some ⟨g, 0, none⟩) L.length L.length) L ∧ Below w.heap.size w w' := by
  have hmk := run_make_row' (P := Try.prog) 22 40 (.slice none 0 0) 24 Try.underlying22 info_ints rfl .i64 .i64 L.length (by omega) (by omega)
  obtain ⟨vs, hrv, hri⟩ := hr
  have t0 : ToRel w w.heap.size L 0 (w.alloc (.cells (madeCells #[.slice none 0 0] L.length) 40)) := by
    refine ⟨⟨fun _ => undef, ?_, fun i hi => by omega, fun i j hi => by omega⟩, Nat.le_refl _, by simp, (Since.refl w).alloc _⟩
    exact (World.rowIs_made w (.slice none 0 0) L.length 40).congr (fun i _ => by simp)
  have Hs := Lib.hid hs; clear hs
  have T0 := Lib.hid t0; clear t0
  go_enter Try.func16, Try.ntmps16
  go_wp2
  clear hmk
  go_loopw [4] (fun i wr => ∃ k : Nat, k ≤ L.length ∧ i = .int .i64 k ∧ ToRel w w.heap.size L k wr) (fun i _ => L.length - (intOf i).toNat)
  case atStart => exact ⟨0, Nat.zero_le _, rfl, T0.out⟩
  case round =>
    clear T0
    obtain ⟨k, hk, rfl, T⟩ := hrel
    by_cases hkn : k < L.length
    · obtain ⟨b, o, rfl, hb, hc⟩ := (hrv.below T.since.below (Nat.le_refl _)).at hkn
      have hck := hc k hkn
      obtain ⟨q1, c1, e1, r1⟩ := hri k hkn
      rw [e1] at hck
      have hmem : L.getD k [] ∈ L := by simp [List.getD, List.getElem?_eq_getElem hkn]
      have hsz := Hs.out _ hmem
      have r2 := r1.below T.since.below (Nat.le_refl _)
      have ct := toInt64S_any q1 c1 (L.getD k []) wr hsz r2
      have hst := fun w1 g' (hb : Below wr.heap.size wr w1) hg' hr => T.step (g' := g') hb hkn hg' hr hsz
      have hk0 : (0 : Int) ≤ (k : Int) := Int.natCast_nonneg _
      have hk1 : (k : Int) < (L.length : Int) := by omega
      have hlt := T.lt
      have hcell : ∀ w1, Below wr.heap.size wr w1 → w1.cell? ⟨w.heap.size, k, none⟩ = some (.slice none 0 0) ∧ w1.frozen? ⟨w.heap.size, k, none⟩ = false := fun w1 hb1 => by
        obtain ⟨⟨vs', h1, _⟩, _⟩ := T
        have h2 : w1.rowIs w.heap.size 40 L.length (fun i => if i < k then vs' i else .slice none 0 0) := by
          obtain ⟨cur, e1, e2, e3⟩ := h1
          exact ⟨cur, (hb1.block _ hlt).trans e1, e2, e3⟩
        have := h2.cell hkn
        rw [if_neg (by omega)] at this
        exact ⟨this, h2.frozen k⟩
      generalize L.getD k [] = row at *
      have Ct := Lib.hid ct; clear ct
      have Hc := Lib.hid hc; clear hc
      have E1 := Lib.hid e1; clear e1
      have Hst := Lib.hid hst; clear hst
      have Hcell := Lib.hid hcell; clear hcell
      have Hmem := Lib.hid hmem; clear hmem
      clear T r1 r2
      go_wp2_with fail
      with_reducible (refine Ct.out.mono ?_)
      rintro e w1 ⟨g', rfl, hg', hrow, hb1⟩
      obtain ⟨k0, k1⟩ := Hcell.out w1 hb1
      have t2 := Hst.out w1 g' hb1 hg' hrow
      have T2 := Lib.hid t2; clear t2
      clear hrow hb1 Hst Hcell Ct
      go_wp2
      go_roundw
      case rel => exact ⟨k + 1, by omega, by go_num, T2.out⟩
      case measure => simp [intOf]; omega
    · obtain rfl : k = L.length := by omega
      have o := T.done hn
      have hb := T.since.below
      have O := Lib.hid o; clear o
      have Hb := Lib.hid hb; clear hb
      clear T
      go_wp2
      go_ret
      exact ⟨_, rfl, O.out, Hb.out⟩
set_option maxHeartbeats 1000000 in
theorem toGrey_any (p : Option Addr) (c : Nat) (L : List (List Int)) (w : World) (hn : L.length ≤ 1048576) (hs : ∀ l ∈ L, l.length ≤ 1048576) (hr : RdSS w p L) :
    Calls Try.prog 7 #[.agg #[.slice p L.length c]] w fun e w' => ∃ g, e = .returned (.agg #[.slice (some ⟨g, 0, none⟩) L.length L.length]) ∧ OwnSS w.heap.size w' (.slice (some ⟨g, 0, none⟩) L.length L.length) L ∧ Below w.heap.size w w' := by
  have hy1 := bl_alloc w (.cells #[.slice p L.length c] 24)
  have hy2 := bl_alloc (w.alloc (.cells #[.slice p L.length c] 24)) (.cells #[.slice none 0 0] 27)
  have hy3 := bl_alloc ((w.alloc (.cells #[.slice p L.length c] 24)).alloc (.cells #[.slice none 0 0] 27)) (.cells #[.slice none 0 0] 27)
  have S := (((Since.refl w).bl hy1).bl hy2).bl hy3
  have A := ((Box.new w (.slice p L.length c) 24).bl hy2).bl hy3
  have B := (Box.new (w.alloc (.cells #[.slice p L.length c] 24)) (.slice none 0 0) 27).bl hy3
  have D := Box.new ((w.alloc (.cells #[.slice p L.length c] 24)).alloc (.cells #[.slice none 0 0] 27)) (.slice none 0 0) 27
  have ct := toInt64SS_any p c L _ hn hs (((hr.bl hy1).bl hy2).bl hy3)
  simp only [World.size_alloc] at B D
  have a0 := A.cell
  have Ct := Lib.hid ct; clear ct
  clear hs hr hy1 hy2 hy3
  go_enter Try.func7, Try.ntmps7
  go_wp2_with fail
  with_reducible (refine Ct.out.mono ?_)
  rintro e w1 ⟨g, rfl, O, hb⟩
  replace S := S.bl hb
  replace A := A.bl hb
  replace B := B.bl hb
  replace D := D.bl hb
  simp only [World.size_alloc] at O
  clear hb a0 Ct
  have d0 := D.cell
  have d1 := D.frozen
  have b1 := B.frozen
  have D2 := (D.set (.slice (some ⟨g, 0, none⟩) L.length L.length)).cell
  have b2 := (B.other (a := ⟨w.heap.size + 1 + 1, 0, none⟩) (by simp) (.slice (some ⟨g, 0, none⟩) L.length L.length))
  have b3 := b2.frozen
  have b5 := b2.cell
  have b4 := (b2.set (.slice (some ⟨g, 0, none⟩) L.length L.length)).cell
  obtain ⟨vs, O⟩ := O
  have o1 : ∀ u v, OwnIntss (w.heap.size + 1 + 1 + 1) ((w1.setCell ⟨w.heap.size + 1 + 1, 0, none⟩ u).setCell ⟨w.heap.size + 1, 0, none⟩ v) (.slice (some ⟨g, 0, none⟩) L.length L.length) L vs := fun u v => by
    obtain ⟨⟨p, c, hv, ho⟩, hi, h3, h4⟩ := O
    exact ⟨⟨p, c, hv, own_set (own_set ho (a := ⟨w.heap.size + 1 + 1, 0, none⟩) (by simp) u) (a := ⟨w.heap.size + 1, 0, none⟩) (by simp) v⟩, fun i hl => by
      obtain ⟨p', c', hv', ho'⟩ := hi i hl
      exact ⟨p', c', hv', own_set (own_set ho' (a := ⟨w.heap.size + 1 + 1, 0, none⟩) (by simp) u) (a := ⟨w.heap.size + 1, 0, none⟩) (by simp) v⟩, h3, h4⟩
  have s2 : ∀ u v, Since w ((w1.setCell ⟨w.heap.size + 1 + 1, 0, none⟩ u).setCell ⟨w.heap.size + 1, 0, none⟩ v) := fun u v => (S.setG (show w.heap.size ≤ w.heap.size + 1 + 1 by omega) u).setG (show w.heap.size ≤ w.heap.size + 1 by omega) v
  have O1 := Lib.hid o1; clear o1
  have S2 := Lib.hid s2; clear s2
  clear S A O
  go_wp2
  refine bodyPost_ret (v := .agg #[.slice (some ⟨g, 0, none⟩) L.length L.length]) (by simp [results, Try.results7, go_sem, b4]) rfl ⟨g, rfl, ⟨vs, (O1.out _ _).mono (by omega)⟩, (S2.out _ _).below⟩
set_option maxHeartbeats 1000000 in
theorem eqGrey_same (p q : Option Addr) (c d : Nat) (L : List (List Int)) (w : World) (hn : L.length ≤ 1048576) (hs : ∀ l ∈ L, l.length ≤ 1048576) (hr : RdSS w p L) (hq : RdSS w q L) :
    Calls Try.prog 9 #[.agg #[.slice p L.length c], .agg #[.slice q L.length d]] w fun e w' => e = .returned (.bool true) ∧ Below w.heap.size w w' := by
  have hy1 := bl_alloc w (.cells #[.slice p L.length c] 27)
  have hy2 := bl_alloc (w.alloc (.cells #[.slice p L.length c] 27)) (.cells #[.slice q L.length d] 27)
  have A := ((Box.new w (.slice p L.length c) 27).bl hy2).cell
  have B := (Box.new (w.alloc (.cells #[.slice p L.length c] 27)) (.slice q L.length d) 27).cell
  have S := ((Since.refl w).bl hy1).bl hy2
  have ce := eqInt64SS_same p q c d L _ hn hs ((hr.bl hy1).bl hy2) ((hq.bl hy1).bl hy2)
  simp only [World.size_alloc] at B
  have Ce := Lib.hid ce; clear ce
  clear hs hr hq hy1 hy2
  go_enter Try.func9, Try.ntmps9
  go_wp2_with fail
  with_reducible (refine Ce.out.mono ?_)
  rintro e w1 ⟨rfl, n, rfl⟩
  replace S := S.bl (bl_drewN _ n)
  go_wp2
  go_ret
  exact ⟨rfl, S.below⟩
end Go.Proofs.Ytedgjcmimdblgaa
