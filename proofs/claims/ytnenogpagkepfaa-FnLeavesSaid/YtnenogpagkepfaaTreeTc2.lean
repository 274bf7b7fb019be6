/- Contract of the program's TouchingLeaves. -/
import Derived.Test.YtnenogpagkepfaaTreeTch
set_option linter.unusedVariables false
set_option linter.unusedSimpArgs false
namespace Go.Proofs.Ytnenogpagkepfaa
open Go.RowKit

set_option maxRecDepth 100000 in
set_option maxHeartbeats 4000000 in
theorem iTouching_any (n : Int) (s : ByteArray) (k : Int) (w : World) (hs : s.size ≤ maxLen) (h0 : -9223372036854775808 ≤ k) (h1 : k ≤ 9223372036854775807) :
    Calls Try.prog 31 #[.agg #[.int .i64 n, .string s], .int .i64 k] w fun e w' => ∃ v, e = .returned (.tuple #[v, .bool (aoOk n s k)]) ∧ OwnInts w.heap.size w' v (tlL n s k) ∧ Below w.heap.size w w' := by
  have S := (Since.refl w).alloc (.cells #[.int .i64 n, .string s] 26)
  have c0 := fun w => leavesOf_any n s w hs
  unfold LvOut at c0
  cases hv : treeV n s
  · have ha := ao_no (k := k) hv
    rw [tl_no ha, ha]
    simp only [hv] at c0
    have C0 := Lib.hid c0; clear c0
    have Hv := Lib.hid hv; clear hv
    have Ha := Lib.hid ha; clear ha
    go_enter Try.func31, Try.ntmps31
    go_wp2_with fail
    with_reducible (refine (C0.out _).mono ?_)
    rintro e w1 ⟨hb, v, L, rfl, O, hL⟩
    obtain ⟨q, d, rfl⟩ := O.form
    replace S := S.bl hb
    clear hb O hL
    go_wp2
    go_ret2
    exact ⟨_, rfl, OwnInts.nil _ _, S.below⟩
  · simp only [hv] at c0
    have lok := treeLv_ok hv
    have hl1 := lok.pos
    have hl2 := lok.len
    have hbd := lok.bd
    have c1 := fun w => in_any k 0 (((treeLv n s).length : Int) - 1) w
    cases hi : inB k 0 (((treeLv n s).length : Int) - 1)
    · have ha := ao_out hi
      rw [tl_no ha, ha]
      simp only [hi] at c1
      generalize treeLv n s = LV at *
      have C0 := Lib.hid c0; clear c0
      have Hv := Lib.hid hv; clear hv
      have Ha := Lib.hid ha; clear ha
      have C1 := Lib.hid c1; clear c1
      have Hi := Lib.hid hi; clear hi
      clear lok hbd
      go_enter Try.func31, Try.ntmps31
      go_wp2_with fail
      with_reducible (refine (C0.out _).mono ?_)
      rintro e w1 ⟨hb, v, L, rfl, O, hL⟩
      have hL2 : L = LV := hL (by trivial)
      subst hL2
      obtain ⟨q, d, rfl⟩ := O.form
      replace S := S.bl hb
      clear hb O hL
      go_wp2_with fail
      with_reducible (refine (C1.out _).mono ?_)
      rintro e w2 ⟨rfl, rfl⟩
      go_wp2
      go_ret2
      exact ⟨_, rfl, OwnInts.nil _ _, S.below⟩
    · have ha := ao_yes hv hi
      rw [tl_yes ha, ha]
      simp only [hi] at c1
      obtain ⟨hk0, hk1⟩ := inB_true hi
      obtain ⟨kn, rfl⟩ : ∃ kn : Nat, k = kn := ⟨k.toNat, by omega⟩
      rw [Int.toNat_natCast]
      have hkn : kn < (treeLv n s).length := by omega
      have hbk := hbd kn hkn
      have htc := fun i => touch_tch ((treeLv n s).getD kn noLeaf) ((treeLv n s).getD i noLeaf)
      have hyes := fun i (h : touchB ((treeLv n s).getD kn noLeaf) ((treeLv n s).getD i noLeaf) = true) => touchN_yes h
      have hno := fun i (h : touchB ((treeLv n s).getD kn noLeaf) ((treeLv n s).getD i noLeaf) = false) => touchN_no h
      have hlenN := fun i => touchN_len (treeLv n s) ((treeLv n s).getD kn noLeaf) i
      have hzero : touchN (treeLv n s) ((treeLv n s).getD kn noLeaf) 0 = [] := rfl
      generalize treeLv n s = LV at *
      obtain ⟨TN, eTN⟩ : ∃ TN, touchN LV (LV.getD kn noLeaf) = TN := ⟨_, rfl⟩
      rw [eTN]
      simp only [eTN] at hyes hno hlenN hzero
      have C0 := Lib.hid c0; clear c0
      have Hv := Lib.hid hv; clear hv
      have Ha := Lib.hid ha; clear ha
      have C1 := Lib.hid c1; clear c1
      have Hi := Lib.hid hi; clear hi
      have Hbd := Lib.hid hbd; clear hbd
      have Htc := Lib.hid htc; clear htc
      have Hyes := Lib.hid hyes; clear hyes
      have Hno := Lib.hid hno; clear hno
      have HlenN := Lib.hid hlenN; clear hlenN
      have Hzero := Lib.hid hzero; clear hzero
      have ETN := Lib.hid eTN; clear eTN
      clear lok
      go_enter Try.func31, Try.ntmps31
      go_wp2_with fail
      with_reducible (refine (C0.out _).mono ?_)
      rintro e w1 ⟨hb, v, L, rfl, O, hL⟩
      have hL2 : L = LV := hL (by trivial)
      subst hL2
      obtain ⟨p, d, rfl⟩ := O.form
      have R := O.rd
      obtain ⟨b, o, rfl, hbl, x0, x1, x2, x3, x4⟩ := leaf_cells R hkn
      obtain ⟨k1, k2, k3, k4⟩ := hbk
      replace S := S.bl hb
      obtain ⟨a0, ea0⟩ : ∃ z : Int, ((L.getD kn noLeaf).x : Int) = z := ⟨_, rfl⟩
      obtain ⟨a1, ea1⟩ : ∃ z : Int, ((L.getD kn noLeaf).y : Int) = z := ⟨_, rfl⟩
      obtain ⟨a2, ea2⟩ : ∃ z : Int, ((L.getD kn noLeaf).side : Int) = z := ⟨_, rfl⟩
      have ka0 : 0 ≤ a0 ∧ a0 ≤ 100 := by omega
      have ka1 : 0 ≤ a1 ∧ a1 ≤ 100 := by omega
      have ka2 : 1 ≤ a2 ∧ a2 ≤ 100 := by omega
      rw [ea0] at x0
      rw [ea1] at x1
      rw [ea2] at x2
      have htc2 := Htc.out
      simp only [ea0, ea1, ea2] at htc2
      clear hb O hL k1 k2 k3 k4 x3 x4
      have Ea0 := Lib.hid ea0; clear ea0
      have Ea1 := Lib.hid ea1; clear ea1
      have Ea2 := Lib.hid ea2; clear ea2
      have Htc2 := Lib.hid htc2; clear htc2
      have kn0 : (0 : Int) ≤ (kn : Int) := Int.natCast_nonneg _
      have kn1 : (kn : Int) < (L.length : Int) := by omega
      go_wp2_with fail
      with_reducible (refine (C1.out _).mono ?_)
      rintro e w2 ⟨rfl, rfl⟩
      have T0 := World.ownsRow_made (base := w1.heap.size) (size := 1) (e := 2) w1 #[] 0 (Nat.le_refl _) (by decide) rfl
      have hsz0 := S.size
      go_wp2_with fail
      go_loopw [8, 29] (fun v i wr => ∃ j : Nat, j ≤ L.length ∧ i = .int .i64 j ∧ TlRel w1 (TN j) v wr) (fun _ i _ => L.length - (intOf i).toNat)
      case atStart => exact ⟨0, Nat.zero_le _, rfl, by rw [Hzero.out]; exact ⟨_, _, rfl, T0, (Since.refl w1).alloc _⟩⟩
      case round =>
        clear T0
        obtain ⟨j, hj, rfl, q, c, rfl, hown, S1⟩ := hrel
        have hj0 : (0 : Int) ≤ (j : Int) := Int.natCast_nonneg _
        by_cases hlt : j < L.length
        · have hj1 : (j : Int) < (L.length : Int) := by omega
          obtain ⟨b1, b2, b3, b4⟩ := Hbd.out j hlt
          obtain ⟨bb, oo, he, hbl1, y0, y1, y2, y3, y4⟩ := leaf_cells (R.bl S1.below) hlt
          simp only [Option.some.injEq, Addr.mk.injEq] at he
          obtain ⟨rfl, rfl, _⟩ := he
          simp only [if_true] at y3
          have z0 := (S1.below.cell (p := ⟨b, o + kn * 5, none⟩) hbl).trans x0
          have z1 := (S1.below.cell (p := ⟨b, o + kn * 5 + 1, none⟩) hbl).trans x1
          have z2 := (S1.below.cell (p := ⟨b, o + kn * 5 + 2, none⟩) hbl).trans x2
          have hsz := S1.size
          have ht := Htc2.out j
          have hy := Hyes.out j
          have hn := Hno.out j
          have hle := HlenN.out j
          obtain ⟨u0, eu0⟩ : ∃ z : Int, ((L.getD j noLeaf).x : Int) = z := ⟨_, rfl⟩
          obtain ⟨u1, eu1⟩ : ∃ z : Int, ((L.getD j noLeaf).y : Int) = z := ⟨_, rfl⟩
          obtain ⟨u2, eu2⟩ : ∃ z : Int, ((L.getD j noLeaf).side : Int) = z := ⟨_, rfl⟩
          obtain ⟨u3, eu3⟩ : ∃ z, (L.getD j noLeaf).black = z := ⟨_, rfl⟩
          obtain ⟨u4, eu4⟩ : ∃ z : ByteArray, (L.getD j noLeaf).addr = z := ⟨_, rfl⟩
          have ku0 : 0 ≤ u0 ∧ u0 ≤ 100 := by omega
          have ku1 : 0 ≤ u1 ∧ u1 ≤ 100 := by omega
          have ku2 : 1 ≤ u2 ∧ u2 ≤ 100 := by omega
          rw [eu0] at y0
          rw [eu1] at y1
          rw [eu2] at y2
          rw [eu3] at y3
          rw [eu4] at y4
          rw [eu0, eu1, eu2] at ht
          have hya := bl_alloc wr (.cells #[.int .i64 u0, .int .i64 u1, .int .i64 u2, .bool u3, .string u4] 83)
          have BL := (Blk.new wr #[.int .i64 u0, .int .i64 u1, .int .i64 u2, .bool u3, .string u4] 83)
          have z0' := (hya.cell (p := ⟨b, o + kn * 5, none⟩) hbl1).trans z0
          have z1' := (hya.cell (p := ⟨b, o + kn * 5 + 1, none⟩) hbl1).trans z1
          have z2' := (hya.cell (p := ⟨b, o + kn * 5 + 2, none⟩) hbl1).trans z2
          have hblA : b < (wr.alloc (.cells #[.int .i64 u0, .int .i64 u1, .int .i64 u2, .bool u3, .string u4] 83)).heap.size := by simp; omega
          have v0 := BL.cell 0 rfl
          have v1 := BL.cell 1 rfl
          have v2 := BL.cell 2 rfl
          have S2 := S1.bl hya
          have hownA := own_below hown hya (Nat.le_refl _)
          have cc := fun w => touches_any a0 a1 a2 u0 u1 u2 w ka0 ka1 ka2 ku0 ku1 ku2
          have Eu0 := Lib.hid eu0; clear eu0
          have Eu1 := Lib.hid eu1; clear eu1
          have Eu2 := Lib.hid eu2; clear eu2
          have Eu3 := Lib.hid eu3; clear eu3
          have Eu4 := Lib.hid eu4; clear eu4
          have Ht := Lib.hid ht; clear ht
          have Hy := Lib.hid hy; clear hy
          have Hn := Lib.hid hn; clear hn
          have Cc := Lib.hid cc; clear cc
          go_upto_region 8 with (fail)
          clear z0 z1 z2 y0 y1 y2 y3 y4 hown S1
          have hBLlt := BL.lt
          generalize wr.alloc (.cells #[.int .i64 u0, .int .i64 u1, .int .i64 u2, .bool u3, .string u4] 83) = wa at *
          have cd := Cc.out wa.drew
          cases hT : tchB a0 a1 a2 u0 u1 u2
          · rw [hT] at cd
            have hs2 := Hn.out (Ht.out.trans hT)
            have Cd := Lib.hid cd; clear cd
            have Hs2 := Lib.hid hs2; clear hs2
            have HT := Lib.hid hT; clear hT
            go_region_held3 (fun w' => w'.cell? ⟨b, o + kn * 5, none⟩ = some (.int .i64 a0) ∧ w'.cell? ⟨b, o + kn * 5 + 1, none⟩ = some (.int .i64 a1) ∧ w'.cell? ⟨b, o + kn * 5 + 2, none⟩ = some (.int .i64 a2) ∧ w'.cell? ⟨wr.heap.size, 0, none⟩ = some (.int .i64 u0) ∧ w'.cell? ⟨wr.heap.size, 1, none⟩ = some (.int .i64 u1) ∧ w'.cell? ⟨wr.heap.size, 2, none⟩ = some (.int .i64 u2))
              (first
                | exact ⟨z0', z1', z2', v0, v1, v2⟩
                | exact ⟨(hb2.cell (p := ⟨b, o + kn * 5, none⟩) hblA).trans z0', (hb2.cell (p := ⟨b, o + kn * 5 + 1, none⟩) hblA).trans z1', (hb2.cell (p := ⟨b, o + kn * 5 + 2, none⟩) hblA).trans z2', (hb2.cell (p := ⟨wr.heap.size, 0, none⟩) hBLlt).trans v0, (hb2.cell (p := ⟨wr.heap.size, 1, none⟩) hBLlt).trans v1, (hb2.cell (p := ⟨wr.heap.size, 2, none⟩) hBLlt).trans v2⟩)
              ((go_at_call 71; with_reducible (refine Cd.out.mono ?_); rintro e w3 ⟨rfl, hb2⟩))
            have hown3 := own_below (own_below hownA (bl_drew wa) (Nat.le_refl _)) hb2 (Nat.le_refl _)
            have S3 := (S2.bl (bl_drew wa)).bl hb2
            clear v0 v1 v2 z0' z1' z2'
            go_wp2
            go_roundw
            case rel => exact ⟨j + 1, by omega, by go_num, by rw [Hs2.out]; exact ⟨_, _, rfl, hown3, S3⟩⟩
            case measure => simp [intOf]; omega
          · rw [hT] at cd
            have hs2 := Hy.out (Ht.out.trans hT)
            have Cd := Lib.hid cd; clear cd
            have Hs2 := Lib.hid hs2; clear hs2
            have HT := Lib.hid hT; clear hT
            go_region_held3 (fun w' => w'.cell? ⟨b, o + kn * 5, none⟩ = some (.int .i64 a0) ∧ w'.cell? ⟨b, o + kn * 5 + 1, none⟩ = some (.int .i64 a1) ∧ w'.cell? ⟨b, o + kn * 5 + 2, none⟩ = some (.int .i64 a2) ∧ w'.cell? ⟨wr.heap.size, 0, none⟩ = some (.int .i64 u0) ∧ w'.cell? ⟨wr.heap.size, 1, none⟩ = some (.int .i64 u1) ∧ w'.cell? ⟨wr.heap.size, 2, none⟩ = some (.int .i64 u2))
              (first
                | exact ⟨z0', z1', z2', v0, v1, v2⟩
                | exact ⟨(hb2.cell (p := ⟨b, o + kn * 5, none⟩) hblA).trans z0', (hb2.cell (p := ⟨b, o + kn * 5 + 1, none⟩) hblA).trans z1', (hb2.cell (p := ⟨b, o + kn * 5 + 2, none⟩) hblA).trans z2', (hb2.cell (p := ⟨wr.heap.size, 0, none⟩) hBLlt).trans v0, (hb2.cell (p := ⟨wr.heap.size, 1, none⟩) hBLlt).trans v1, (hb2.cell (p := ⟨wr.heap.size, 2, none⟩) hBLlt).trans v2⟩)
              ((go_at_call 71; with_reducible (refine Cd.out.mono ?_); rintro e w3 ⟨rfl, hb2⟩))
            have hown3 := own_below (own_below hownA (bl_drew wa) (Nat.le_refl _)) hb2 (Nat.le_refl _)
            have S3 := (S2.bl (bl_drew wa)).bl hb2
            have hsz3 := S3.size
            clear v0 v1 v2 z0' z1' z2'
            go_wp2_with (at_builtin; refine wpList_pushA w3.heap.size rfl rfl _ _ 47 rfl w1.heap.size 2 (.int .i64 0) 1 8 Try.underlying47 info_i64 rfl (by decide) (.slice q (TN j).length c) (TN j).length _ rfl hown3 _ 1 rfl rfl (one_int _ _) (by omega) (by simp [maxLen]; omega) (by omega) ?_; intro g' cap w4 hown4 hgr hat hlt4)
            go_roundw
            case rel => exact ⟨j + 1, by omega, by go_num, by rw [Hs2.out]; exact ⟨_, _, by rw [List.length_append]; rfl, by rw [List.length_append, intCells_snoc']; exact hown4, ⟨below_own S3.below hgr (own_ge hown3) S3.size⟩⟩⟩
            case measure => simp [intOf]; omega
        · obtain rfl : j = L.length := by omega
          have SF := S.bl S1.below
          go_wp2
          go_ret2
          exact ⟨_, rfl, ⟨_, _, rfl, own_mono hown hsz0⟩, SF.below⟩
end Go.Proofs.Ytnenogpagkepfaa
