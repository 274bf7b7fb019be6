/- Contracts of the reference's and of the program's LeavesOf. -/
import Derived.Test.YtnenogpagkepfaaTreeS8
import Derived.Test.YtnenogpagkepfaaLawIS
import Derived.StillTailTactics
set_option linter.unusedVariables false
set_option linter.unusedSimpArgs false
namespace Go.Proofs.Ytnenogpagkepfaa
open Go.RowKit

/-- The loops of LeavesOf: the rows M lie in v. -/
def LvRel (w : World) (M : List (List Int)) (n : Nat) (v : Value) (wr : World) : Prop := ∃ q c, v = .slice q n c ∧ M.length = n ∧ (∃ vs, OwnIntss w.heap.size wr (.slice q n c) M vs) ∧ Since w wr
theorem at_lv {v : Value} {g cap n : Nat} {w : World} (h : v.ownBlock = some g ∨ w.heap.size ≤ g) : v.ownBlock = (Value.slice (some ⟨g, 0, none⟩) n cap).ownBlock ∨ (∀ k, (Value.slice (some ⟨g, 0, none⟩) n cap).ownBlock = some k → w.heap.size ≤ k) := by
  rcases h with h | h
  · exact .inl h
  · exact .inr (fun k hk => by cases hk; exact h)
/-- The world behind the two blocks that an appended row lays. -/
def lvW (wo : World) (x y s b : Int) : World := ((wo.alloc (.cells #[.int .i64 x, .int .i64 y, .int .i64 s, .int .i64 b] 2)).alloc (.cells #[.slice (some ⟨wo.heap.size, 0, none⟩) 4 4] 47)).drew
theorem lvW_below (wo : World) (x y s b : Int) : Below wo.heap.size wo (lvW wo x y s b) := bl_trans ((bl_alloc wo _).alloc (by simp) _) (bl_drew _)
theorem lvW_next (wo : World) (x y s b : Int) : (lvW wo x y s b).heap[wo.heap.size + 1]? = some (.cells #[.slice (some ⟨wo.heap.size, 0, none⟩) 4 4] 47 (0, 0)) := by
  have h := heap_alloc_new (wo.alloc (.cells #[.int .i64 x, .int .i64 y, .int .i64 s, .int .i64 b] 2)) (.cells #[.slice (some ⟨wo.heap.size, 0, none⟩) 4 4] 47)
  rw [World.size_alloc] at h
  exact h
theorem lv_push {w wo w2 : World} {M : List (List Int)} {n : Nat} (hn : M.length = n) {q : Option Addr} {c : Nat} (vs : Nat → Value) (h : OwnIntss w.heap.size wo (.slice q n c) M vs) (x y s b : Int) (S : Since w wo) {g' cap : Nat}
    (hgr : (lvW wo x y s b).grownBy w2 (Value.slice q n c).ownBlock)
    (hat : (Value.slice q n c).ownBlock = some g' ∨ g' = wo.heap.size + 2)
    (ho : w2.ownsRow w.heap.size 47 1 (.slice (some ⟨g', 0, none⟩) (n + 1) cap) (n + 1) ((List.range n).map vs ++ [.slice (some ⟨wo.heap.size, 0, none⟩) 4 4])) : LvRel w (M ++ [[x, y, s, b]]) (n + 1) (.slice (some ⟨g', 0, none⟩) (n + 1) cap) w2 := by
  subst hn
  have hB := S.size
  have hb := lvW_below wo x y s b
  have hsz : (lvW wo x y s b).heap.size = wo.heap.size + 2 := by simp [lvW]
  have hx0 : OwnInts wo.heap.size (wo.alloc (.cells #[.int .i64 x, .int .i64 y, .int .i64 s, .int .i64 b] 2)) (.slice (some ⟨wo.heap.size, 0, none⟩) 4 4) [x, y, s, b] :=
    OwnInts.of_blk [x, y, s, b] (Blk.new _ _ _) rfl (Nat.le_refl _) (by simp [maxLen])
  have hx : OwnInts wo.heap.size (lvW wo x y s b) (.slice (some ⟨wo.heap.size, 0, none⟩) 4 4) [x, y, s, b] := (hx0.bl (bl_alloc _ (.cells #[.slice (some ⟨wo.heap.size, 0, none⟩) 4 4] 47))).bl (bl_drew _)
  have hat2 : (Value.slice q M.length c).ownBlock = some g' ∨ (lvW wo x y s b).heap.size ≤ g' := hat.imp id (fun e => by omega)
  have J := h.push hb hx hB hgr (v' := .slice (some ⟨g', 0, none⟩) (M.length + 1) cap) (at_lv hat2) ⟨_, _, rfl⟩ ho
  obtain ⟨_, _, _, hown⟩ := h.own
  exact ⟨_, _, rfl, by rw [List.length_append, List.length_singleton], ⟨_, J⟩, ⟨below_own (S.bl hb).below hgr (own_ge hown) (S.bl hb).size⟩⟩
theorem leaf_take {l : List QLeaf} {j : Nat} (h : j < l.length) : (l.take (j + 1)).map leafRow = (l.take j).map leafRow ++ [[((l.getD j noLeaf).x : Int), ((l.getD j noLeaf).y : Int), ((l.getD j noLeaf).side : Int), if (l.getD j noLeaf).black then 1 else 0]] := by
  rw [List.take_succ_eq_append_getElem h, List.map_append]
  simp [leafRow, List.getD, List.getElem?_eq_getElem h]
theorem lvL_no {n : Int} {s : ByteArray} (h : treeV n s = false) : lvL n s = [] := by rw [lvL, h]; rfl
theorem lvL_yes {n : Int} {s : ByteArray} (h : treeV n s = true) : lvL n s = (treeLv n s).map leafRow := by rw [lvL, h]; rfl
set_option maxRecDepth 100000 in
set_option maxHeartbeats 4000000 in
theorem sLeavesOf_any (n : Int) (s : ByteArray) (w : World) (hs : s.size ≤ maxLen) :
    Calls Try.prog 41 #[.agg #[.int .i64 n, .string s]] w fun e w' => ∃ v, e = .returned (.tuple #[v, .bool (treeV n s)]) ∧ OwnSS w.heap.size w' v (lvL n s) ∧ Below w.heap.size w w' := by
  have V := TreeVar.new w n s
  have S := (Since.refl w).alloc (.cells #[.int .i64 n, .string s] 26)
  have c0 := l02All_any w.heap.size n s _ V hs
  unfold AllOut at c0
  cases hv : treeV n s
  · rw [lvL_no hv]
    rw [hv] at c0
    have C0 := Lib.hid c0; clear c0
    have Hv := Lib.hid hv; clear hv
    clear V
    go_enter Try.func41, Try.ntmps41
    go_wp2_with fail
    with_reducible (refine C0.out.mono ?_)
    rintro e w1 ⟨hb, v, L, rfl, O, hL⟩
    obtain ⟨q, d, rfl⟩ := O.form
    replace S := S.bl hb
    clear hb O hL
    go_wp2
    go_ret2
    exact ⟨_, rfl, ⟨_, OwnIntss.nil _ _⟩, S.below⟩
  · rw [lvL_yes hv]
    rw [hv] at c0
    have hl2 := (treeLv_ok hv).len
    generalize treeLv n s = LV at *
    have C0 := Lib.hid c0; clear c0
    have Hv := Lib.hid hv; clear hv
    clear V
    go_enter Try.func41, Try.ntmps41
    go_wp2_with fail
    with_reducible (refine C0.out.mono ?_)
    rintro e w1 ⟨hb, v, L, rfl, O, hL⟩
    have hL2 : L = LV := hL (by trivial)
    subst hL2
    obtain ⟨p, d, rfl⟩ := O.form
    have R := O.rd
    replace S := S.bl hb
    have J0 := OwnIntss.start (World.ownsRow_made (base := w1.heap.size) (size := 1) (e := 47) w1 #[] 0 (Nat.le_refl _) (by decide) rfl) ⟨_, _, rfl⟩
    have S0 := (Since.refl w1).alloc (.cells #[] 47)
    have R0 := R.alloc (.cells #[] 47)
    clear hb O hL
    go_wp2
    go_loopw [6, 7] (fun v i wr => ∃ j : Nat, j ≤ L.length ∧ i = .int .i64 j ∧ LvRel w1 ((L.take j).map leafRow) j v wr) (fun _ i _ => L.length - (intOf i).toNat)
    case atStart => exact ⟨0, Nat.zero_le _, rfl, _, _, rfl, by simp, ⟨_, J0⟩, S0⟩
    case round =>
      clear J0 S0 R0
      obtain ⟨j, hj, rfl, q, c, rfl, hm, ⟨vs, J⟩, S1⟩ := hrel
      have hj0 : (0 : Int) ≤ (j : Int) := Int.natCast_nonneg _
      by_cases hlt : j < L.length
      · have hj1 : (j : Int) < (L.length : Int) := by omega
        have hsu := leaf_take hlt
        obtain ⟨b, o, rfl, hbl1, x0, x1, x2, x3, x4⟩ := leaf_cells R hlt
        have hbl : b < wr.heap.size := Nat.lt_of_lt_of_le hbl1 S1.size
        replace x0 := (S1.below.cell (p := ⟨b, o + j * 5, none⟩) hbl1).trans x0
        replace x1 := (S1.below.cell (p := ⟨b, o + j * 5 + 1, none⟩) hbl1).trans x1
        replace x2 := (S1.below.cell (p := ⟨b, o + j * 5 + 2, none⟩) hbl1).trans x2
        replace x3 := (S1.below.cell (p := ⟨b, o + j * 5 + 3, none⟩) hbl1).trans x3
        simp only [Bool.false_eq_true, if_false] at x3
        generalize ((L.getD j noLeaf).x : Int) = u1 at *
        generalize ((L.getD j noLeaf).y : Int) = u2 at *
        generalize ((L.getD j noLeaf).side : Int) = u3 at *
        generalize (if (L.getD j noLeaf).black = true then (1 : Int) else 0) = u4 at *
        generalize (L.take j).map leafRow = M at *
        obtain ⟨_, _, hv2, hown⟩ := J.own
        clear hv2
        rw [hm] at hown
        have hW := lvW_below wr u1 u2 u3 u4
        have hown2 := own_below hown hW (Nat.le_refl _)
        have hblk : (lvW wr u1 u2 u3 u4).heap[wr.heap.size + 1]? = some (.cells #[.slice (some ⟨wr.heap.size, 0, none⟩) 4 4] 47 (0, 0)) := lvW_next wr u1 u2 u3 u4
        have hsz := S1.size
        have hbs : w1.heap.size ≤ (lvW wr u1 u2 u3 u4).heap.size := (S1.bl hW).size
        have hbw : b < w1.heap.size := hbl1
        have hne : some b ≠ (Value.slice q j c).ownBlock := own_ne hown hbl1
        have z0 := (hW.cell (p := ⟨b, o + j * 5, none⟩) hbl).trans x0
        have z1 := (hW.cell (p := ⟨b, o + j * 5 + 1, none⟩) hbl).trans x1
        have z2 := (hW.cell (p := ⟨b, o + j * 5 + 2, none⟩) hbl).trans x2
        have z3 := (hW.cell (p := ⟨b, o + j * 5 + 3, none⟩) hbl).trans x3
        have hmx : j + 1 ≤ maxLen := by unfold maxLen; omega
        obtain ⟨i0, hi0, hz0, hz1, hz2⟩ := info_parts info_ints
        unfold lvW at hown2 hblk hbs z0 z1 z2 z3
        have Hm := Lib.hid hm; clear hm
        have Hsu := Lib.hid hsu; clear hsu
        have HW := Lib.hid hW; clear hW
        have Hne := Lib.hid hne; clear hne
        clear x4 R hown
        go_upto_region 8 with (fail)
        go_region_held3 (fun w' => w'.cell? ⟨b, o + j * 5, none⟩ = some (.int .i64 u1) ∧ w'.cell? ⟨b, o + j * 5 + 1, none⟩ = some (.int .i64 u2) ∧ w'.cell? ⟨b, o + j * 5 + 2, none⟩ = some (.int .i64 u3) ∧ w'.cell? ⟨b, o + j * 5 + 3, none⟩ = some (.int .i64 u4))
          (first
            | go_keep
            | exact ⟨hgr.cell z0 Hne.out, hgr.cell z1 Hne.out, hgr.cell z2 Hne.out, hgr.cell z3 Hne.out⟩)
          ((refine step_append_lies _ (by rfl) _ _ _ (by rfl) w1.heap.size 47 i0 _ 1 24 Try.underlying58 hi0 hz0 hz1 hz2 rfl (by decide) (.slice q j c) j _ (by rfl) hown2
                ⟨wr.heap.size + 1, 0, none⟩ 1 1 [.slice (some ⟨wr.heap.size, 0, none⟩) 4 4] (by rfl) (by rfl) (World.news_of_block (cs := #[.slice (some ⟨wr.heap.size, 0, none⟩) 4 4]) (t := 47) (fr := (0, 0)) hblk) (one_slice _ _ _)
                (by decide) hmx (by omega) hbs (wr.heap.size + 2) (by simp) ?_; intro g' cap w2 hown3 hgr hat hlt2))
        have hgr2 : (lvW wr u1 u2 u3 u4).grownBy w2 (Value.slice q j c).ownBlock := hgr
        clear hgr
        go_wp2
        go_roundw
        case rel => exact ⟨j + 1, by omega, by go_num, by rw [Hsu.out]; exact lv_push Hm.out vs J u1 u2 u3 u4 S1 hgr2 hat hown3⟩
        case measure => simp [intOf]; omega
      · obtain rfl : j = L.length := by omega
        rw [List.take_of_length_le (Nat.le_refl _)] at J
        have hsz := S.size
        have Hm := Lib.hid hm; clear hm
        go_wp2
        go_ret2
        exact ⟨_, rfl, ⟨_, J.mono hsz⟩, (S.bl S1.below).below⟩
theorem oneIf_c (b : Bool) (w : World) : Calls Try.prog 83 #[.bool b] w fun e w' => e = .returned (.int .i64 (if b = true then 1 else 0)) ∧ w' = w := by
  cases b
  all_goals
    go_enter Try.func83, Try.ntmps83
    go_wp2
    go_ret
    exact ⟨rfl, rfl⟩
set_option maxRecDepth 100000 in
set_option maxHeartbeats 4000000 in
theorem leavesOfI_any (n : Int) (s : ByteArray) (w : World) (hs : s.size ≤ maxLen) :
    Calls Try.prog 39 #[.agg #[.int .i64 n, .string s]] w fun e w' => ∃ v, e = .returned (.tuple #[v, .bool (treeV n s)]) ∧ OwnSS w.heap.size w' v (lvL n s) ∧ Below w.heap.size w w' := by
  have S := (Since.refl w).alloc (.cells #[.int .i64 n, .string s] 26)
  have c0 := fun w => leavesOf_any n s w hs
  unfold LvOut at c0
  cases hv : treeV n s
  · rw [lvL_no hv]
    simp only [hv] at c0
    have C0 := Lib.hid c0; clear c0
    have Hv := Lib.hid hv; clear hv
    go_enter Try.func39, Try.ntmps39
    go_wp2_with fail
    with_reducible (refine (C0.out _).mono ?_)
    rintro e w1 ⟨hb, v, L, rfl, O, hL⟩
    obtain ⟨q, d, rfl⟩ := O.form
    replace S := S.bl hb
    clear hb O hL
    go_wp2
    go_ret2
    exact ⟨_, rfl, ⟨_, OwnIntss.nil _ _⟩, S.below⟩
  · rw [lvL_yes hv]
    simp only [hv] at c0
    have hl2 := (treeLv_ok hv).len
    generalize treeLv n s = LV at *
    have C0 := Lib.hid c0; clear c0
    have Hv := Lib.hid hv; clear hv
    go_enter Try.func39, Try.ntmps39
    go_wp2_with fail
    with_reducible (refine (C0.out _).mono ?_)
    rintro e w1 ⟨hb, v, L, rfl, O, hL⟩
    have hL2 : L = LV := hL (by trivial)
    subst hL2
    obtain ⟨p, d, rfl⟩ := O.form
    have R := O.rd
    replace S := S.bl hb
    have J0 := OwnIntss.start (World.ownsRow_made (base := w1.heap.size) (size := 1) (e := 47) w1 #[] 0 (Nat.le_refl _) (by decide) rfl) ⟨_, _, rfl⟩
    have S0 := (Since.refl w1).alloc (.cells #[] 47)
    clear hb O hL
    go_wp2
    go_loopw [6, 19] (fun v i wr => ∃ j : Nat, j ≤ L.length ∧ i = .int .i64 j ∧ LvRel w1 ((L.take j).map leafRow) j v wr) (fun _ i _ => L.length - (intOf i).toNat)
    case atStart => exact ⟨0, Nat.zero_le _, rfl, _, _, rfl, by simp, ⟨_, J0⟩, S0⟩
    case round =>
      clear J0 S0
      obtain ⟨j, hj, rfl, q, c, rfl, hm, ⟨vs, J⟩, S1⟩ := hrel
      have hj0 : (0 : Int) ≤ (j : Int) := Int.natCast_nonneg _
      by_cases hlt : j < L.length
      · have hj1 : (j : Int) < (L.length : Int) := by omega
        have hsu := leaf_take hlt
        obtain ⟨b, o, rfl, hbl, x0, x1, x2, x3, x4⟩ := leaf_cells (R.bl S1.below) hlt
        simp only [if_true] at x3
        have o6 := oneIf_c (L.getD j noLeaf).black
        generalize (if (L.getD j noLeaf).black = true then (1 : Int) else 0) = u4 at *
        generalize ((L.getD j noLeaf).x : Int) = u1 at *
        generalize ((L.getD j noLeaf).y : Int) = u2 at *
        generalize ((L.getD j noLeaf).side : Int) = u3 at *
        generalize (L.getD j noLeaf).black = u5 at *
        generalize (L.getD j noLeaf).addr = u6 at *
        generalize (L.take j).map leafRow = M at *
        have hsz2 : w1.heap.size ≤ wr.heap.size := S1.size
        have B := Blk.new wr #[.int .i64 u1, .int .i64 u2, .int .i64 u3, .bool u5, .string u6] 83
        have J1 := J.bl (bl_alloc wr (.cells #[.int .i64 u1, .int .i64 u2, .int .i64 u3, .bool u5, .string u6] 83))
        have S2 := S1.alloc (.cells #[.int .i64 u1, .int .i64 u2, .int .i64 u3, .bool u5, .string u6] 83)
        have y0 := B.cell 0 rfl
        have y1 := B.cell 1 rfl
        have y2 := B.cell 2 rfl
        have y3 := B.cell 3 rfl
        have Hm := Lib.hid hm; clear hm
        have Hsu := Lib.hid hsu; clear hsu
        have O6 := Lib.hid o6; clear o6
        clear S1 R
        go_upto_region 8 with (fail)
        clear x0 x1 x2 x3 x4
        generalize wr.alloc (.cells #[.int .i64 u1, .int .i64 u2, .int .i64 u3, .bool u5, .string u6] 83) = wa at *
        obtain ⟨_, _, hv2, hown⟩ := J1.own
        clear hv2
        rw [Hm.out] at hown
        have hW := lvW_below wa u1 u2 u3 u4
        have hown2 := own_below hown hW (Nat.le_refl _)
        have hblk : (lvW wa u1 u2 u3 u4).heap[wa.heap.size + 1]? = some (.cells #[.slice (some ⟨wa.heap.size, 0, none⟩) 4 4] 47 (0, 0)) := lvW_next wa u1 u2 u3 u4
        have hsz := S2.size
        have hbs : w1.heap.size ≤ (lvW wa u1 u2 u3 u4).heap.size := (S2.bl hW).size
        have hne : some wr.heap.size ≠ (Value.slice q j c).ownBlock := fun e => by have := (J.lt _ e.symm).2; omega
        have hbl2 : wr.heap.size < wa.heap.size := B.lt
        have z0 := (hW.cell (p := ⟨wr.heap.size, 0, none⟩) hbl2).trans y0
        have z1 := (hW.cell (p := ⟨wr.heap.size, 1, none⟩) hbl2).trans y1
        have z2 := (hW.cell (p := ⟨wr.heap.size, 2, none⟩) hbl2).trans y2
        have z3 := (hW.cell (p := ⟨wr.heap.size, 3, none⟩) hbl2).trans y3
        have hmx : j + 1 ≤ maxLen := by unfold maxLen; omega
        obtain ⟨i0, hi0, hz0, hz1, hz2⟩ := info_parts info_ints
        unfold lvW at hown2 hblk hbs z0 z1 z2 z3
        have HW := Lib.hid hW; clear hW
        have Hne := Lib.hid hne; clear hne
        clear hown B J
        go_region_held3 (fun w' => w'.cell? ⟨wr.heap.size, 0, none⟩ = some (.int .i64 u1) ∧ w'.cell? ⟨wr.heap.size, 1, none⟩ = some (.int .i64 u2) ∧ w'.cell? ⟨wr.heap.size, 2, none⟩ = some (.int .i64 u3) ∧ w'.cell? ⟨wr.heap.size, 3, none⟩ = some (.bool u5))
          (first
            | go_keep
            | exact ⟨hgr.cell z0 Hne.out, hgr.cell z1 Hne.out, hgr.cell z2 Hne.out, hgr.cell z3 Hne.out⟩)
          (first
            | (go_at_call 83; with_reducible (refine (O6.out _).mono ?_); rintro e w' ⟨rfl, rfl⟩)
            | (refine step_append_lies _ (by rfl) _ _ _ (by rfl) w1.heap.size 47 i0 _ 1 24 Try.underlying58 hi0 hz0 hz1 hz2 rfl (by decide) (.slice q j c) j _ (by rfl) hown2
                ⟨wa.heap.size + 1, 0, none⟩ 1 1 [.slice (some ⟨wa.heap.size, 0, none⟩) 4 4] (by rfl) (by rfl) (World.news_of_block (cs := #[.slice (some ⟨wa.heap.size, 0, none⟩) 4 4]) (t := 47) (fr := (0, 0)) hblk) (one_slice _ _ _)
                (by decide) hmx (by omega) hbs (wa.heap.size + 2) (by simp) ?_; intro g' cap w2 hown3 hgr hat hlt2))
        have hgr2 : (lvW wa u1 u2 u3 u4).grownBy w2 (Value.slice q j c).ownBlock := hgr
        clear hgr
        go_wp2
        go_roundw
        case rel => exact ⟨j + 1, by omega, by go_num, by rw [Hsu.out]; exact lv_push Hm.out vs J1 u1 u2 u3 u4 S2 hgr2 hat hown3⟩
        case measure => simp [intOf]; omega
      · obtain rfl : j = L.length := by omega
        rw [List.take_of_length_le (Nat.le_refl _)] at J
        have hsz := S.size
        have Hm := Lib.hid hm; clear hm
        go_wp2
        go_ret2
        exact ⟨_, rfl, ⟨_, J.mono hsz⟩, (S.bl S1.below).below⟩
end Go.Proofs.Ytnenogpagkepfaa
