/- Contract of the program's HullOfBorder. -/
import Derived.Test.YtjplikkehhpomaaHuL
import Derived.Test.YtjplikkehhpomaaHuC
import Derived.Test.YtjplikkehhpomaaHuCat
import Derived.Test.YtjplikkehhpomaaLawBd
set_option linter.unusedVariables false
set_option linter.unusedSimpArgs false
namespace Go.Proofs.Ytjplikkehhpomaa
open Go.RowKit

noncomputable def hulB (x y : Int) (s : ByteArray) : List (Int × Int) := if bdB x y s then hulR (cornN x y s s.size) else []
theorem spotAt_dropH (m : List (Int × Int)) (j i : Nat) : spotAt (m.drop j) i = spotAt m (j * 2 + i) := by
  unfold spotAt
  have e1 : (j * 2 + i) % 2 = i % 2 := by omega
  have e2 : (j * 2 + i) / 2 = j + i / 2 := by omega
  rw [e1, e2]
  simp [List.getD, List.getElem?_drop]
theorem rd_drop {w : World} {g o : Nat} {H : List (Int × Int)} (h : Rd w (some ⟨g, o, none⟩) (H.length * 2) (spotAt H)) (j : Nat) : Rd w (some ⟨g, o + j * 2, none⟩) ((H.drop j).length * 2) (spotAt (H.drop j)) := by
  refine .inr ⟨g, o + j * 2, rfl, fun i hi => ?_⟩
  rw [List.length_drop] at hi
  obtain ⟨_, _, eP, -, hc⟩ := h.at (k := 0) (by omega)
  cases eP
  rw [spotAt_dropH, Nat.add_assoc]
  exact hc (j * 2 + i) (by omega)
theorem rd_take {w : World} {g o : Nat} {H : List (Int × Int)} (h : Rd w (some ⟨g, o, none⟩) (H.length * 2) (spotAt H)) (j : Nat) : Rd w (some ⟨g, o, none⟩) ((H.take j).length * 2) (spotAt (H.take j)) := by
  refine .inr ⟨g, o, rfl, fun i hi => ?_⟩
  rw [List.length_take] at hi
  obtain ⟨_, _, eP, -, hc⟩ := h.at (k := 0) (by omega)
  cases eP
  rw [spotAt_take H (k := j) (by omega)]
  exact hc i (by omega)
set_option maxRecDepth 100000 in
set_option maxHeartbeats 16000000 in
theorem hullOfBorder_any (x y : Int) (s : ByteArray) (w : World) (hs : s.size ≤ maxLen) (hsm : small (x, y)) :
    Calls Try.prog 14 #[.agg #[.int .i64 x, .int .i64 y, .string s]] w fun e w' => ∃ v, e = .returned (.tuple #[v, .bool (bdB x y s)]) ∧ OwnSpots w.heap.size w' v (hulB x y s) ∧ Below w.heap.size w w' := by
  have B := Blk.new w #[.int .i64 x, .int .i64 y, .string s] 30
  have S := (Since.refl w).alloc (.cells #[.int .i64 x, .int .i64 y, .string s] 30)
  have cb := isBorder_any x y s (w.alloc (.cells #[.int .i64 x, .int .i64 y, .string s] 30)) hs hsm
  have k0 := B.cell 0 rfl
  have k1 := B.cell 1 rfl
  have k2 := B.cell 2 rfl
  cases hbd : bdB x y s
  · rw [hbd] at cb
    have hA : hulB x y s = [] := by simp [hulB, hbd]
    have Cb := Lib.hid cb; clear cb
    have Hbd := Lib.hid hbd; clear hbd
    have HA := Lib.hid hA; clear hA
    go_enter Try.func14, Try.ntmps14
    go_wp2_with fail
    refine Cb.out.mono ?_
    rintro e w1 ⟨rfl, hb⟩
    go_wp2
    go_ret2
    exact ⟨_, rfl, by rw [HA.out]; exact OwnSpots.nil _ _, (S.bl hb).below⟩
  · rw [hbd] at cb
    have bd := bdB_iff.1 hbd
    have hA : hulB x y s = hulR (cornN x y s s.size) := by simp [hulB, hbd]
    have c2 := fun w1 => cornersOf_any x y s w1 bd hsm
    have hcn := cornN_len x y s s.size
    have hcr := (cornN_round bd).1
    have hhi := bd.hi
    have hcl := crn_len (cornN x y s s.size)
    have hc2 := crn_two_bd bd
    have hin := cornN_inC bd
    obtain ⟨hok1, hok2⟩ := crn_ok (cornN x y s s.size)
    obtain ⟨hd1, hd2⟩ := crn_both hc2
    have hle1 := chainS_len (crnL (cornN x y s s.size))
    have hle2 := chainS_len (crnL (cornN x y s s.size)).reverse
    rw [List.length_reverse] at hle2
    have hrR : hulR (cornN x y s s.size) = Hull.rotL (Hull.hullL (crnL (cornN x y s s.size))) (Hull.minIx (Hull.hullL (crnL (cornN x y s s.size))) (Hull.hullL (crnL (cornN x y s s.size))).length) := rfl
    have hcd : cmpL (srtX (cornN x y s s.size)) = crnL (cornN x y s s.size) := rfl
    obtain ⟨C, eC⟩ : ∃ C, cornN x y s s.size = C := ⟨_, rfl⟩
    simp only [eC] at c2 hcn hcr hcl hc2 hin hok2 hd1 hd2 hle1 hle2 hrR hcd hA
    obtain ⟨l, el⟩ : ∃ l, crnL C = l := ⟨_, rfl⟩
    rw [el] at hcl hc2 hok2 hd1 hd2 hle1 hle2 hrR hcd
    have hinl : ∀ x ∈ l, inC x := fun x hx => hin x ((hok2 x).1 hx)
    clear hok1
    have Cb := Lib.hid cb; clear cb
    have Hbd := Lib.hid hbd; clear hbd
    have HA := Lib.hid hA; clear hA
    have Bd := Lib.hid bd; clear bd
    have C2 := Lib.hid c2; clear c2
    have Hin := Lib.hid hin; clear hin
    have Hok2 := Lib.hid hok2; clear hok2
    have HrR := Lib.hid hrR; clear hrR
    have Hcd := Lib.hid hcd; clear hcd
    have EC := Lib.hid eC; clear eC
    have El := Lib.hid el; clear el
    have Hinl := Lib.hid hinl; clear hinl
    go_enter Try.func14, Try.ntmps14
    go_wp2_with fail
    refine Cb.out.mono ?_
    rintro e w1 ⟨rfl, hb⟩
    replace S := S.bl hb
    replace B := B.bl hb
    clear k0 k1 k2 hb
    have k0 := B.cell 0 rfl
    have k1 := B.cell 1 rfl
    have k2 := B.cell 2 rfl
    go_wp2_with fail
    refine (C2.out _).mono ?_
    rintro e w2 ⟨v, rfl, own, hb2⟩
    have hs1 := S.size
    replace S := S.bl hb2
    replace own := own.mono hs1
    clear hb2 B k0 k1 k2
    obtain ⟨q, cv, hv, ho⟩ := own
    obtain ⟨g, hq⟩ : ∃ g, q = some ⟨g, 0, none⟩ := by
      rcases ho.2 with ⟨_, h0⟩ | ⟨g, cap, cur, hv2, hb, _⟩
      · omega
      · rw [hv] at hv2
        simp only [Value.slice.injEq] at hv2
        exact ⟨g, hv2.1⟩
    subst hq
    subst hv
    have O : OwnSpots w.heap.size w2 (.slice (some ⟨g, 0, none⟩) C.length cv) C := ⟨_, _, rfl, ho⟩
    clear ho
    have hge := O.ge g rfl
    have c3 := sortX_any O rfl (by omega)
    have C3 := Lib.hid c3; clear c3
    go_wp2_with fail
    refine C3.out.mono ?_
    rintro e w3 ⟨rfl, O3, hg3⟩
    have S3 := S.grown hg3 hge.1
    have c4 := compact_any g cv (srtX C) w3 (by rw [srtX_len]; omega) (by rw [srtX_len]; exact O3)
    rw [srtX_len, Hcd.out] at c4
    clear O O3 hg3 C3 S
    have C4 := Lib.hid c4; clear c4
    go_wp2_with fail
    refine C4.out.mono ?_
    rintro e w4 ⟨rfl, O4, hg4⟩
    have S4 := S3.grown hg4 hge.1
    have hgl := (O4.ge g rfl).2
    have c5 := chain_any (some ⟨g, 0, none⟩) cv l w4 (by omega) (by omega) Hinl.out O4.rd
    clear hg4 C4 S3
    have C5 := Lib.hid c5; clear c5
    go_wp2_with fail
    refine C5.out.mono ?_
    rintro e w5 ⟨g5, d5, rfl, O5, hb5⟩
    have S5 := S4.bl hb5
    have L5 := O4.bl hb5
    have hg5 := O5.ge g5 rfl
    have c6 := rev_any L5 rfl (by omega)
    have hn5 : (Hull.chainS l).reverse.dropLast.length ≤ l.length := by rw [List.length_dropLast, List.length_reverse]; omega
    obtain ⟨U, eU⟩ : ∃ U, (Hull.chainS l).reverse.dropLast = U := ⟨_, rfl⟩
    simp only [eU] at O5 hn5 ⊢
    clear L5 hb5 C5
    have C6 := Lib.hid c6; clear c6
    have EU := Lib.hid eU; clear eU
    go_wp2_with fail
    refine C6.out.mono ?_
    rintro e w6 ⟨rfl, O6, hg6⟩
    have S6 := S5.grown hg6 hge.1
    have U6 := O5.grown hg6 (fun k hk e => by have e1 : g5 = k := Option.some.inj hk; have e2 : k = g := Option.some.inj e; omega)
    have c7 := chain_any (some ⟨g, 0, none⟩) cv l.reverse w6 (by rw [List.length_reverse]; omega) (by rw [List.length_reverse]; omega) (fun x hx => Hinl.out x (List.mem_reverse.1 hx)) O6.rd
    rw [List.length_reverse] at c7
    clear O6 hg6 C6 S5 O5
    have C7 := Lib.hid c7; clear c7
    go_wp2_with fail
    refine C7.out.mono ?_
    rintro e w7 ⟨g7, d7, rfl, O7, hb7⟩
    have S7 := S6.bl hb7
    have U7 := U6.bl hb7
    have hg7 := O7.ge g7 rfl
    have hs6 := S6.size
    have hn7 : 0 < (Hull.chainS l.reverse).reverse.dropLast.length ∧ (Hull.chainS l.reverse).reverse.dropLast.length ≤ l.length := by rw [List.length_dropLast, List.length_reverse]; omega
    have hH : Hull.hullL l = U ++ (Hull.chainS l.reverse).reverse.dropLast := by rw [← EU.out]; rfl
    obtain ⟨D, eD⟩ : ∃ D, (Hull.chainS l.reverse).reverse.dropLast = D := ⟨_, rfl⟩
    simp only [eD] at O7 hn7 hH ⊢
    obtain ⟨i0, hi0, hz0, hz1, hz2⟩ := info_parts info_spot
    have hnews := spot_news (X := D) O7.rd
    have hone := spot_ones D
    have hlD := spotCells_len D
    obtain ⟨p', c', hv, ho⟩ := U7
    clear hv p' c'
    have hbase : w4.heap.size ≤ w7.heap.size := by have := (ho.lt g5 rfl).2; omega
    clear C7 hb7 U6 S6
    have Hnews := Lib.hid hnews; clear hnews
    have Hone := Lib.hid hone; clear hone
    have HlD := Lib.hid hlD; clear hlD
    have HH := Lib.hid hH; clear hH
    have ED := Lib.hid eD; clear eD
    go_wp2_with (at_builtin; refine wpList_append_lies _ rfl _ _ 33 rfl w4.heap.size 28 i0 _ 2 16 Try.underlying33 hi0 hz0 hz1 hz2 rfl (by decide) (.slice (some ⟨g5, 0, none⟩) U.length d5) U.length _ rfl ho ⟨g7, 0, none⟩ D.length d7 (spotCells D) rfl HlD.out Hnews.out Hone.out hn7.1 (by unfold maxLen; omega) (by omega) hbase _ rfl ?_; intro g8 d8 w8 hown8 hgr8 hat8 hlt8)
    have hUD : (U ++ D).length = U.length + D.length := List.length_append
    have hB4 := S4.size
    have hw5 : w.heap.size ≤ g5 := Nat.le_trans hB4 hg5.1
    have S8 : Since w w8 := S7.grown (g := g5) hgr8 hw5
    have O8 : OwnSpots w.heap.size w8 (.slice (some ⟨g8, 0, none⟩) (U.length + D.length) d8) (U ++ D) := ⟨_, _, by rw [hUD], own_mono (by rw [hUD, spotCells_app]; exact hown8) hB4⟩
    clear hown8 hgr8 hat8 hlt8 ho O7 S7 S4
    obtain ⟨H, eH⟩ : ∃ H, U ++ D = H := ⟨_, rfl⟩
    have hHl : Hull.hullL l = H := HH.out.trans eH
    obtain ⟨n, en⟩ : ∃ n, U.length + D.length = n := ⟨_, rfl⟩
    rw [en] at hUD O8
    rw [eH] at hUD O8
    simp only [en]
    have hR0 := O8.rd
    rw [hUD] at hR0
    have hn1 : 0 < n := by omega
    have hn2 : n ≤ 2400 := by omega
    have hm0 : Hull.minIx H 0 = 0 := rfl
    have hml := fun k (hk : k ≤ n) => Hull.minIx_lt H (by omega) k (by omega)
    have hen : (U.length : Int) + (D.length : Int) = (n : Int) := by omega
    clear hn7 hg7 hn5 hg5 hgl hbase en
    have o8 := O8
    clear O8
    have O8 := Lib.hid o8; clear o8
    have HHl := Lib.hid hHl; clear hHl
    have EH := Lib.hid eH; clear eH
    have Hml := Lib.hid hml; clear hml
    go_wp2
    go_loopw [7, 29] (fun f i wr => ∃ k : Nat, k ≤ n ∧ i = .int .i64 k ∧ f = .int .i64 ((Hull.minIx H k : Nat) : Int) ∧ Since w8 wr) (fun _ i _ => n - (intOf i).toNat)
    case atStart => exact ⟨0, Nat.zero_le _, rfl, by rw [hm0]; rfl, Since.refl w8⟩
    case round =>
      obtain ⟨k, hk, rfl, rfl, V⟩ := hrel
      have hk00 : (0 : Int) ≤ (k : Int) := Int.natCast_nonneg _
      by_cases hlt : k < n
      · have hkn : (k : Int) < (n : Int) := by omega
        have hwk : IntKind.i64.wrap ((k : Int) + 1) = (k : Int) + 1 := IntWalk.i64_in _ (by omega)
        have hmn := Hml.out k hk
        rw [hUD] at hmn
        have hsu : Hull.minIx H (k + 1) = if Hull.yx (H.getD k (0, 0)) (H.getD (Hull.minIx H k) (0, 0)) then k else Hull.minIx H k := rfl
        obtain ⟨j, ej⟩ : ∃ j, Hull.minIx H k = j := ⟨_, rfl⟩
        rw [ej] at hmn hsu ⊢
        have hj0 : (0 : Int) ≤ (j : Int) := Int.natCast_nonneg _
        have hjn : (j : Int) < (n : Int) := by omega
        have hz := ordZ_yx (H.getD k (0, 0)) (H.getD j (0, 0))
        have hcl2 : ∀ wx, Since w8 wx → ∀ i, i < n * 2 → wx.cell? ⟨g8, i, none⟩ = some (spotAt H i) := fun wx hx i hi => by
          obtain ⟨_, _, eP, -, hc⟩ := (hR0.bl hx.below).at (k := 0) (by omega)
          cases eP
          have := hc i hi
          rwa [Nat.zero_add] at this
        have a0 := hcl2 wr V (k * 2) (by omega)
        have a1 := hcl2 wr V (k * 2 + 1) (by omega)
        have b0 := hcl2 wr V (j * 2) (by omega)
        have b1 := hcl2 wr V (j * 2 + 1) (by omega)
        rw [spotAt_x] at a0
        rw [spotAt_y] at a1
        obtain ⟨⟨ax, ay⟩, ea⟩ : ∃ s, H.getD k (0, 0) = s := ⟨_, rfl⟩
        obtain ⟨⟨bx, bz⟩, eb⟩ : ∃ s, H.getD j (0, 0) = s := ⟨_, rfl⟩
        rw [ea] at a0 a1 hsu hz
        rw [eb] at hsu hz
        dsimp only at a0 a1
        have V0 := V.bl (bl_alloc wr (.cells #[.int .i64 ax, .int .i64 ay] 28))
        have Bx := Blk.new wr #[.int .i64 ax, .int .i64 ay] 28
        obtain ⟨ta, eta⟩ : ∃ t, wr.heap.size = t := ⟨_, rfl⟩
        rw [eta] at Bx
        have hs : ∀ wa, Since w8 wa → Blk wa ta #[.int .i64 ax, .int .i64 ay] 28 → ∀ wx, Since wa.drew wx → wx.cell? ⟨g8, j * 2, none⟩ = some (.int .i64 bx) ∧ wx.cell? ⟨g8, j * 2 + 1, none⟩ = some (.int .i64 bz) ∧ wx.cell? ⟨ta, 0, none⟩ = some (.int .i64 ax) ∧ wx.cell? ⟨ta, 1, none⟩ = some (.int .i64 ay) := fun wa ha hB wx hx => by
          have hv := (Since.refl wa).bl (bl_drew wa)
          have hv := hv.bl hx.below
          have h3 := ha.bl hv.below
          have h4 := hB.bl hv.below
          have q0 := hcl2 wx h3 (j * 2) (by omega)
          have q1 := hcl2 wx h3 (j * 2 + 1) (by omega)
          rw [spotAt_x, eb] at q0
          rw [spotAt_y, eb] at q1
          exact ⟨q0, q1, h4.cell 0 rfl, h4.cell 1 rfl⟩
        have cb := fun w => spotOrder_any ax ay bx bz w
        obtain ⟨z, ez⟩ : ∃ z, ordZ (ax, ay) (bx, bz) = z := ⟨_, rfl⟩
        simp only [ez] at cb hz
        clear b0 b1
        have hw8 : (wr.alloc (.cells #[.int .i64 ax, .int .i64 ay] 28)).heap.size = ta + 1 := by rw [World.size_alloc, eta]
        by_cases hyx : Hull.yx (ax, ay) (bx, bz)
        · rw [decide_eq_true hyx] at hz
          rw [if_pos hyx] at hsu
          have Hs := Lib.hid hs; clear hs
          have Cb := Lib.hid cb; clear cb
          have Ea := Lib.hid ea; clear ea
          have Eb := Lib.hid eb; clear eb
          have Ej := Lib.hid ej; clear ej
          have Ez := Lib.hid ez; clear ez
          have Hsu := Lib.hid hsu; clear hsu
          have Hyx := Lib.hid hyx; clear hyx
          have Hcl2 := Lib.hid hcl2; clear hcl2
          go_upto_region 13 with (fail)
          try simp only [eta]
          generalize wr.alloc (.cells #[.int .i64 ax, .int .i64 ay] 28) = wa at *
          have hs2 := Hs.out wa V0 Bx
          have Hs2 := Lib.hid hs2; clear hs2
          refine wp_region_calm (S := Since (wa.drew)) 12 (rs := [0, 1, 2, 3, 4, 5, 6]) rfl rfl (by kernel_rfl) (by kernel_rfl) (Since.refl _) ?_
          refine Chain.step (v := ?_) rfl (Or.inr ⟨by rfl, Or.inl ?_⟩) ?_
          rotate_left
          · intro wx hx
            obtain ⟨z0, z1, z2, z3⟩ := Hs2.out wx hx
            go_simp
            try with_reducible rfl
          try simp only [Act.put, List.setIfInBounds_toArray, List.set_cons_zero, List.set_cons_succ]
          refine Chain.step (v := ?_) rfl (Or.inr ⟨by rfl, Or.inl ?_⟩) ?_
          rotate_left
          · intro wx hx
            obtain ⟨z0, z1, z2, z3⟩ := Hs2.out wx hx
            go_simp
            try with_reducible rfl
          try simp only [Act.put, List.setIfInBounds_toArray, List.set_cons_zero, List.set_cons_succ]
          refine Chain.step (v := ?_) rfl (Or.inr ⟨by rfl, Or.inl ?_⟩) ?_
          rotate_left
          · intro wx hx
            obtain ⟨z0, z1, z2, z3⟩ := Hs2.out wx hx
            go_simp
            try with_reducible rfl
          try simp only [Act.put, List.setIfInBounds_toArray, List.set_cons_zero, List.set_cons_succ]
          refine Chain.step (v := ?_) rfl (Or.inr ⟨by rfl, Or.inl ?_⟩) ?_
          rotate_left
          · intro wx hx
            obtain ⟨z0, z1, z2, z3⟩ := Hs2.out wx hx
            go_simp
            try with_reducible rfl
          try simp only [Act.put, List.setIfInBounds_toArray, List.set_cons_zero, List.set_cons_succ]
          refine Chain.step (v := ?_) rfl (Or.inr ⟨by rfl, Or.inl ?_⟩) ?_
          rotate_left
          · intro wx hx
            obtain ⟨z0, z1, z2, z3⟩ := Hs2.out wx hx
            go_simp
            try with_reducible rfl
          try simp only [Act.put, List.setIfInBounds_toArray, List.set_cons_zero, List.set_cons_succ]
          refine Chain.step (v := _) rfl (Or.inr ⟨by rfl, Or.inr ⟨44, #[.agg #[.int .i64 ax, .int .i64 ay], .agg #[.int .i64 bx, .int .i64 bz]], fun wx hx => ⟨?_, by with_reducible exact ((Cb.out wx).mono (fun e w' h => ⟨h.1, hx.bl h.2⟩))⟩⟩⟩) ?_
          · go_simp
            try with_reducible rfl
          try simp only [Act.put, List.setIfInBounds_toArray, List.set_cons_zero, List.set_cons_succ]
          refine Chain.step (v := ?_) rfl (Or.inr ⟨by rfl, Or.inl ?_⟩) ?_
          rotate_left
          · intro wx hx
            obtain ⟨z0, z1, z2, z3⟩ := Hs2.out wx hx
            go_simp
            try with_reducible rfl
          try simp only [Act.put, List.setIfInBounds_toArray, List.set_cons_zero, List.set_cons_succ]
          intro wz hwz
          have V5 := (V0.bl (bl_drew wa)).bl hwz.below
          clear hwz a0 a1
          go_wp2
          go_roundw
          case rel => exact ⟨k + 1, by omega, by go_num, by rw [Hsu.out], V5⟩
          case measure => simp [intOf]; omega
        · rw [decide_eq_false hyx] at hz
          rw [if_neg hyx] at hsu
          have Hs := Lib.hid hs; clear hs
          have Cb := Lib.hid cb; clear cb
          have Ea := Lib.hid ea; clear ea
          have Eb := Lib.hid eb; clear eb
          have Ej := Lib.hid ej; clear ej
          have Ez := Lib.hid ez; clear ez
          have Hsu := Lib.hid hsu; clear hsu
          have Hyx := Lib.hid hyx; clear hyx
          have Hcl2 := Lib.hid hcl2; clear hcl2
          go_upto_region 13 with (fail)
          try simp only [eta]
          generalize wr.alloc (.cells #[.int .i64 ax, .int .i64 ay] 28) = wa at *
          have hs2 := Hs.out wa V0 Bx
          have Hs2 := Lib.hid hs2; clear hs2
          refine wp_region_calm (S := Since (wa.drew)) 12 (rs := [0, 1, 2, 3, 4, 5, 6]) rfl rfl (by kernel_rfl) (by kernel_rfl) (Since.refl _) ?_
          refine Chain.step (v := ?_) rfl (Or.inr ⟨by rfl, Or.inl ?_⟩) ?_
          rotate_left
          · intro wx hx
            obtain ⟨z0, z1, z2, z3⟩ := Hs2.out wx hx
            go_simp
            try with_reducible rfl
          try simp only [Act.put, List.setIfInBounds_toArray, List.set_cons_zero, List.set_cons_succ]
          refine Chain.step (v := ?_) rfl (Or.inr ⟨by rfl, Or.inl ?_⟩) ?_
          rotate_left
          · intro wx hx
            obtain ⟨z0, z1, z2, z3⟩ := Hs2.out wx hx
            go_simp
            try with_reducible rfl
          try simp only [Act.put, List.setIfInBounds_toArray, List.set_cons_zero, List.set_cons_succ]
          refine Chain.step (v := ?_) rfl (Or.inr ⟨by rfl, Or.inl ?_⟩) ?_
          rotate_left
          · intro wx hx
            obtain ⟨z0, z1, z2, z3⟩ := Hs2.out wx hx
            go_simp
            try with_reducible rfl
          try simp only [Act.put, List.setIfInBounds_toArray, List.set_cons_zero, List.set_cons_succ]
          refine Chain.step (v := ?_) rfl (Or.inr ⟨by rfl, Or.inl ?_⟩) ?_
          rotate_left
          · intro wx hx
            obtain ⟨z0, z1, z2, z3⟩ := Hs2.out wx hx
            go_simp
            try with_reducible rfl
          try simp only [Act.put, List.setIfInBounds_toArray, List.set_cons_zero, List.set_cons_succ]
          refine Chain.step (v := ?_) rfl (Or.inr ⟨by rfl, Or.inl ?_⟩) ?_
          rotate_left
          · intro wx hx
            obtain ⟨z0, z1, z2, z3⟩ := Hs2.out wx hx
            go_simp
            try with_reducible rfl
          try simp only [Act.put, List.setIfInBounds_toArray, List.set_cons_zero, List.set_cons_succ]
          refine Chain.step (v := _) rfl (Or.inr ⟨by rfl, Or.inr ⟨44, #[.agg #[.int .i64 ax, .int .i64 ay], .agg #[.int .i64 bx, .int .i64 bz]], fun wx hx => ⟨?_, by with_reducible exact ((Cb.out wx).mono (fun e w' h => ⟨h.1, hx.bl h.2⟩))⟩⟩⟩) ?_
          · go_simp
            try with_reducible rfl
          try simp only [Act.put, List.setIfInBounds_toArray, List.set_cons_zero, List.set_cons_succ]
          refine Chain.step (v := ?_) rfl (Or.inr ⟨by rfl, Or.inl ?_⟩) ?_
          rotate_left
          · intro wx hx
            obtain ⟨z0, z1, z2, z3⟩ := Hs2.out wx hx
            go_simp
            try with_reducible rfl
          try simp only [Act.put, List.setIfInBounds_toArray, List.set_cons_zero, List.set_cons_succ]
          intro wz hwz
          have V5 := (V0.bl (bl_drew wa)).bl hwz.below
          clear hwz a0 a1
          go_wp2
          go_roundw
          case rel => exact ⟨k + 1, by omega, by go_num, by rw [Hsu.out], V5⟩
          case measure => simp [intOf]; omega
      · obtain rfl : k = n := by omega
        have hmn := Hml.out k (Nat.le_refl _)
        rw [hUD] at hmn
        have hrr : hulR C = H.drop (Hull.minIx H k) ++ H.take (Hull.minIx H k) := by rw [HrR.out, HHl.out, hUD]; rfl
        obtain ⟨j, ej⟩ : ∃ j, Hull.minIx H k = j := ⟨_, rfl⟩
        rw [ej] at hmn hrr ⊢
        have hj0 : (0 : Int) ≤ (j : Int) := Int.natCast_nonneg _
        have hjn : (j : Int) ≤ (k : Int) := by omega
        obtain ⟨-, -, hkd, hdm, -⟩ := O8.out.cells
        have hjd : (j : Int) ≤ (d8 : Int) := by omega
        have hkd2 : (k : Int) ≤ (d8 : Int) := by omega
        have hdj : ¬ d8 = j := by omega
        have O9 := O8.out.bl V.below
        have hR9 := O9.rd
        have hXl : (H.drop j).length = k - j := by rw [List.length_drop, hUD]
        have hYl : (H.take j).length = j := by rw [List.length_take, hUD]; omega
        have hL : (H.drop j ++ H.take j).length = k := by rw [List.length_append, hXl, hYl]; omega
        have X9 := rd_drop hR9 j
        have Y9 := rd_take hR9 j
        rw [Nat.zero_add] at X9
        have bw := (bl_alloc wr (.cells #[.slice (some ⟨g8, j * 2, none⟩) (k - j) (d8 - j), .slice (some ⟨g8, 0, none⟩) j d8] 33)).trans ((bl_drew (wr.alloc (.cells #[.slice (some ⟨g8, j * 2, none⟩) (k - j) (d8 - j), .slice (some ⟨g8, 0, none⟩) j d8] 33))).mono (by simp))
        have cc := concat_any wr.heap.size g8 (j * 2) (d8 - j) g8 0 d8 (H.drop j) (H.take j) _ (by rw [hXl, hYl]; exact (Blk.new wr #[.slice (some ⟨g8, j * 2, none⟩) (k - j) (d8 - j), .slice (some ⟨g8, 0, none⟩) j d8] 33).bl (bl_drew _)) (X9.bl bw) (Y9.bl bw) (by omega) (by omega)
        rw [hL] at cc
        have V9 := V.bl bw
        have S9 := S8.bl V9.below
        have hs9 := S9.size
        clear X9 Y9 hR9 O9 V9
        have Hrr := Lib.hid hrr; clear hrr
        have Ej := Lib.hid ej; clear ej
        have Cc := Lib.hid cc; clear cc
        have Bw := Lib.hid bw; clear bw
        have HXl := Lib.hid hXl; clear hXl
        have HYl := Lib.hid hYl; clear hYl
        have HL := Lib.hid hL; clear hL
        go_upto_region 16 with (fail)
        go_region_held3 (fun w' => True) (trivial) ((first | (go_at_call 45; (with_reducible refine Cc.out.mono ?_); rintro e w9 ⟨g9, d9, rfl, O10, hb10⟩)))
        have S10 := S9.bl hb10
        have O11 := O10.mono hs9
        clear hb10 O10
        have o11 := O11
        clear O11
        have O11 := Lib.hid o11; clear o11
        go_wp2
        go_ret2
        exact ⟨_, rfl, by rw [HA.out, Hrr.out]; exact O11.out, S10.below⟩
end Go.Proofs.Ytjplikkehhpomaa
