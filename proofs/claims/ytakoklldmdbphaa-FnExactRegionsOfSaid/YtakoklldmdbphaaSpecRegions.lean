/- Contract of the reference's RegionsOf. -/
import Derived.Test.YtakoklldmdbphaaRegions
set_option linter.unusedVariables false
namespace Go.Proofs.Ytakoklldmdbphaa
open Go.RowKit

set_option maxRecDepth 100000 in
set_option maxHeartbeats 8000000 in
theorem sRegionsOf_any (W H k : Int) (p : Option Addr) (c : Nat) (l : List (Int × Int)) (w : World) (hn : l.length ≤ 1048576) (hr : Rd w p (l.length * 2) (spotAt l)) :
    Calls Try.prog 39 #[.int .i64 W, .int .i64 H, .int .i64 k, .slice p l.length c] w fun e w' => ∃ v, e = .returned (.tuple #[v, .bool (regOk W H k l)]) ∧ OwnSS w.heap.size w' v (regL W H k l) ∧ Below w.heap.size w w' := by
  have cw := fun (w : World) => l01Side_any W w
  have ch := fun (w : World) => l01Side_any H w
  have ck := fun (w : World) => l06Kind_any k w
  have ci := fun (w : World) => l00In_any (l.length : Int) 1 64 w
  have hno : regOk W H k l = false → regL W H k l = [] := fun h => by simp [regL, h]
  cases h1 : inB W 1 16
  · have hv : regOk W H k l = false := by simp [regOk, sizeOkB, h1]
    have hv2 := hno hv
    rw [h1] at cw
    rw [hv, hv2]
    have Cw := Lib.hid cw; clear cw
    have H1 := Lib.hid h1; clear h1
    have Hv := Lib.hid hv; clear hv
    have Hv2 := Lib.hid hv2; clear hv2
    clear hno ck ci ch
    go_enter Try.func39, Try.ntmps39
    go_wp2_with (go_at_call 97; refine (Cw.out _).mono ?_; rintro e w1 ⟨rfl, rfl⟩)
    go_ret2
    exact ⟨_, rfl, OwnSS.nil _ _, Below.refl _ _⟩
  · cases h2 : inB H 1 16
    · have hv : regOk W H k l = false := by simp [regOk, sizeOkB, h2]
      have hv2 := hno hv
      rw [h1] at cw
      rw [h2] at ch
      rw [hv, hv2]
      have Cw := Lib.hid cw; clear cw
      have Ch := Lib.hid ch; clear ch
      have H1 := Lib.hid h1; clear h1
      have H2 := Lib.hid h2; clear h2
      have Hv := Lib.hid hv; clear hv
      have Hv2 := Lib.hid hv2; clear hv2
      clear hno ck ci
      go_enter Try.func39, Try.ntmps39
      go_wp2_with (first | (go_at_call 97; (with_reducible refine (Cw.out _).mono ?_); rintro e w1 ⟨rfl, rfl⟩) | (go_at_call 97; refine (Ch.out _).mono ?_; rintro e w1 ⟨rfl, rfl⟩))
      go_ret2
      exact ⟨_, rfl, OwnSS.nil _ _, Below.refl _ _⟩
    · cases h3 : inB k 0 2
      · have hv : regOk W H k l = false := by simp [regOk, h3]
        have hv2 := hno hv
        rw [h1] at cw
        rw [h2] at ch
        rw [h3] at ck
        rw [hv, hv2]
        have Cw := Lib.hid cw; clear cw
        have Ch := Lib.hid ch; clear ch
        have Ck := Lib.hid ck; clear ck
        have H1 := Lib.hid h1; clear h1
        have H2 := Lib.hid h2; clear h2
        have H3 := Lib.hid h3; clear h3
        have Hv := Lib.hid hv; clear hv
        have Hv2 := Lib.hid hv2; clear hv2
        clear hno ci
        go_enter Try.func39, Try.ntmps39
        go_wp2_with (first | (go_at_call 98; refine (Ck.out _).mono ?_; rintro e w1 ⟨rfl, rfl⟩) | (go_at_call 97; (with_reducible refine (Cw.out _).mono ?_); rintro e w1 ⟨rfl, rfl⟩) | (go_at_call 97; refine (Ch.out _).mono ?_; rintro e w1 ⟨rfl, rfl⟩))
        go_ret2
        exact ⟨_, rfl, OwnSS.nil _ _, Below.refl _ _⟩
      · cases h4 : inB (l.length : Int) 1 64
        · have hv : regOk W H k l = false := by simp [regOk, h4]
          have hv2 := hno hv
          rw [h1] at cw
          rw [h2] at ch
          rw [h3] at ck
          rw [h4] at ci
          rw [hv, hv2]
          have Cw := Lib.hid cw; clear cw
          have Ch := Lib.hid ch; clear ch
          have Ck := Lib.hid ck; clear ck
          have Ci := Lib.hid ci; clear ci
          have H1 := Lib.hid h1; clear h1
          have H2 := Lib.hid h2; clear h2
          have H3 := Lib.hid h3; clear h3
          have H4 := Lib.hid h4; clear h4
          have Hv := Lib.hid hv; clear hv
          have Hv2 := Lib.hid hv2; clear hv2
          clear hno
          go_enter Try.func39, Try.ntmps39
          go_wp2_with (first | (go_at_call 99; refine (Ci.out _).mono ?_; rintro e w1 ⟨rfl, rfl⟩) | (go_at_call 98; refine (Ck.out _).mono ?_; rintro e w1 ⟨rfl, rfl⟩) | (go_at_call 97; (with_reducible refine (Cw.out _).mono ?_); rintro e w1 ⟨rfl, rfl⟩) | (go_at_call 97; refine (Ch.out _).mono ?_; rintro e w1 ⟨rfl, rfl⟩))
          go_ret2
          exact ⟨_, rfl, OwnSS.nil _ _, Below.refl _ _⟩
        · have d1 := inB_true h1
          have d2 := inB_true h2
          have d3 := inB_true h4
          obtain ⟨Wn, rfl⟩ := Int.eq_ofNat_of_zero_le (show 0 ≤ W by omega)
          obtain ⟨Hn, rfl⟩ := Int.eq_ofNat_of_zero_le (show 0 ≤ H by omega)
          have hv : regOk Wn Hn k l = l.all (insB Wn Hn) := by simp [regOk, sizeOkB, h1, h2, h3, h4]
          have hv2 : l.all (insB Wn Hn) = true → regL Wn Hn k l = gridL Wn Hn (regD Wn k l) := fun h => by simp [regL, hv, h]
          have hv3 : l.all (insB Wn Hn) = false → regL Wn Hn k l = [] := fun h => hno (by rw [hv]; exact h)
          rw [hv]
          rw [h1] at cw
          rw [h2] at ch
          rw [h3] at ck
          rw [h4] at ci
          obtain ⟨d11, d12⟩ := d1
          obtain ⟨d21, d22⟩ := d2
          obtain ⟨d31, d32⟩ := d3
          have Cw := Lib.hid cw; clear cw
          have Ch := Lib.hid ch; clear ch
          have Ck := Lib.hid ck; clear ck
          have Ci := Lib.hid ci; clear ci
          have H1 := Lib.hid h1; clear h1
          have H2 := Lib.hid h2; clear h2
          have H3 := Lib.hid h3; clear h3
          have H4 := Lib.hid h4; clear h4
          have Hv := Lib.hid hv; clear hv
          have Hv2 := Lib.hid hv2; clear hv2
          have Hv3 := Lib.hid hv3; clear hv3
          clear hno
          go_enter Try.func39, Try.ntmps39
          go_wp2_with (first | (go_at_call 99; refine (Ci.out _).mono ?_; rintro e w1 ⟨rfl, rfl⟩) | (go_at_call 98; refine (Ck.out _).mono ?_; rintro e w1 ⟨rfl, rfl⟩) | (go_at_call 97; (with_reducible refine (Cw.out _).mono ?_); rintro e w1 ⟨rfl, rfl⟩) | (go_at_call 97; refine (Ch.out _).mono ?_; rintro e w1 ⟨rfl, rfl⟩))
          go_loop [10] (fun i => ∃ j : Nat, j ≤ l.length ∧ i = .int .i64 j ∧ (l.take j).all (insB Wn Hn) = true) (fun i => l.length - (intOf i).toNat)
          case atStart => exact ⟨0, Nat.zero_le _, rfl, by simp⟩
          case round =>
            obtain ⟨j, hj, rfl, hall⟩ := hrel
            by_cases hlt : j < l.length
            · obtain ⟨b, o, rfl, hb, hc⟩ := hr.at (k := j * 2) (by omega)
              have a0 := hc (j * 2) (by omega)
              have a1 := hc (j * 2 + 1) (by omega)
              rw [spotAt_x] at a0
              rw [spotAt_y, ← Nat.add_assoc] at a1
              have hj0 : (0 : Int) ≤ (j : Int) := Int.natCast_nonneg _
              have hj1 : (j : Int) < (l.length : Int) := by omega
              have hno := all_no (insB Wn Hn) l j hlt
              have hsu := all_take (insB Wn Hn) l j hlt
              rw [hall] at hsu
              have hi : insB Wn Hn (l.getD j (0, 0)) = (inB (l.getD j (0, 0)).1 0 ((Wn : Int) - 1) && inB (l.getD j (0, 0)).2 0 ((Hn : Int) - 1)) := rfl
              rw [hi] at hno hsu
              clear hi hc
              generalize (l.getD j (0, 0)).1 = x at *
              generalize (l.getD j (0, 0)).2 = y at *
              cases e1 : inB x 0 ((Wn : Int) - 1)
              · rw [e1] at hno
                have hv4 := hno rfl
                have hv5 := Hv3.out hv4
                have Hv4 := Lib.hid hv4; clear hv4
                have Hv5 := Lib.hid hv5; clear hv5
                have Hall := Lib.hid hall; clear hall
                clear hno hsu
                go_wp2_with (go_at_call 99; refine (l00In_any _ _ _ _).mono ?_; rintro e w' ⟨rfl, rfl⟩)
                go_ret2
                exact ⟨_, by rw [Hv4.out]; rfl, by rw [Hv5.out]; exact OwnSS.nil _ _, Below.refl _ _⟩
              · cases e2 : inB y 0 ((Hn : Int) - 1)
                · rw [e1, e2] at hno
                  have hv4 := hno rfl
                  have hv5 := Hv3.out hv4
                  have Hv4 := Lib.hid hv4; clear hv4
                  have Hv5 := Lib.hid hv5; clear hv5
                  have Hall := Lib.hid hall; clear hall
                  clear hno hsu
                  go_wp2_with (go_at_call 99; refine (l00In_any _ _ _ _).mono ?_; rintro e w' ⟨rfl, rfl⟩)
                  go_ret2
                  exact ⟨_, by rw [Hv4.out]; rfl, by rw [Hv5.out]; exact OwnSS.nil _ _, Below.refl _ _⟩
                · rw [e1, e2] at hsu
                  have Hsu := Lib.hid hsu; clear hsu
                  have Hall := Lib.hid hall; clear hall
                  clear hno
                  go_wp2_with (go_at_call 99; refine (l00In_any _ _ _ _).mono ?_; rintro e w' ⟨rfl, rfl⟩)
                  go_round
                  case rel => exact ⟨j + 1, by omega, by go_num, Hsu.out⟩
                  case measure => simp [intOf]; omega
            · obtain rfl : j = l.length := by omega
              rw [List.take_of_length_le (Nat.le_refl _)] at hall
              have hv4 := Hv2.out hall
              have hbd : ∀ s ∈ l, (-1000 ≤ s.1 ∧ s.1 ≤ 1000) ∧ (-1000 ≤ s.2 ∧ s.2 ≤ 1000) := fun s hs => by
                obtain ⟨x, y, e1, e2, h1, h2⟩ := insB_nat (List.all_eq_true.1 hall s hs)
                omega
              have J0 := OwnIntss.start (World.ownsRow_made (base := w.heap.size) (size := 1) (e := 37) w #[] 0 (Nat.le_refl _) (by decide) rfl) ⟨_, _, rfl⟩
              have hdd : ∀ x y : Nat, x < Wn → ((leastN (farG k x y) l l.length : Nat) : Int) = regD Wn k l (y * Wn + x) := fun x y hx => (regD_at hx).symm
              obtain ⟨d, ed⟩ : ∃ d, regD Wn k l = d := ⟨_, rfl⟩
              rw [ed] at hdd hv4
              have hl0 : 0 < l.length := by omega
              have Hall := Lib.hid hall; clear hall
              have Hv4 := Lib.hid hv4; clear hv4
              have Hbd := Lib.hid hbd; clear hbd
              have Hdd := Lib.hid hdd; clear hdd
              have Ed := Lib.hid ed; clear ed
              go_wp2
              go_loopw [11, 12] (fun v i wr => ∃ y : Nat, y ≤ Hn ∧ i = .int .i64 y ∧ (∃ vs, OwnIntss w.heap.size wr v (gridL Wn y d) vs) ∧ Since w wr) (fun _ i _ => Hn - (intOf i).toNat)
              case atStart => exact ⟨0, Nat.zero_le _, rfl, ⟨_, J0⟩, (Since.refl w).alloc _⟩
              case round =>
                clear J0
                obtain ⟨y, hy, rfl, ⟨vs, J⟩, S⟩ := hrel
                obtain ⟨q, c', rfl⟩ := J.form
                obtain ⟨_, _, _, hown⟩ := J.own
                obtain ⟨wo, ewo⟩ : ∃ wo : World, wo = wr := ⟨_, rfl⟩
                subst ewo
                by_cases hyH : y < Hn
                · have hsz := S.size
                  have R0 : RowRel wo (fun x => d (y * Wn + x)) 0 (.slice (some ⟨wo.heap.size, 0, none⟩) 0 0) (wo.alloc (.cells #[] 2)) := ⟨_, _, rfl, World.ownsRow_made wo #[] 0 (Nat.le_refl _) (by decide) rfl, bl_alloc _ _⟩
                  have hl16 : (gridL Wn y d).length ≤ 16 := by rw [gridL_len]; omega
                  go_wp2_with fail
                  go_loopw [13, 14] (fun r i wr => ∃ x : Nat, x ≤ Wn ∧ i = .int .i64 x ∧ RowRel wo (fun x => d (y * Wn + x)) x r wr) (fun _ i _ => Wn - (intOf i).toNat)
                  case atStart => exact ⟨0, Nat.zero_le _, rfl, R0⟩
                  case round =>
                    clear R0
                    obtain ⟨x, hx, rfl, q2, d2, rfl, hrow, hbj⟩ := hrel
                    have hbs2 := hbj.size
                    by_cases hxW : x < Wn
                    · have hR := hr.below (S.below.trans (hbj.mono hsz)) (Nat.le_refl _)
                      have hD := Hdd.out x y hxW
                      have hsu : rowL (x + 1) (fun x => d (y * Wn + x)) = rowL x (fun x => d (y * Wn + x)) ++ [d (y * Wn + x)] := rowL_succ x _
                      rw [← hD] at hsu
                      have Hsu := Lib.hid hsu; clear hsu
                      have HD := Lib.hid hD; clear hD
                      clear J hown
                      obtain ⟨wi, ewi⟩ : ∃ wi : World, wi = wr := ⟨_, rfl⟩
                      subst ewi
                      go_wp2_with fail
                      go_loopw [15, 16] (fun bst i wr => ∃ j : Nat, 1 ≤ j ∧ j ≤ l.length ∧ i = .int .i64 j ∧ bst = .int .i64 (leastN (farG k x y) l j : Nat) ∧ ∃ n, wr = wi.drewN n) (fun _ i _ => l.length - (intOf i).toNat)
                      case atStart => exact ⟨1, Nat.le_refl _, by omega, rfl, by simp [leastN], 0, rfl⟩
                      case round =>
                        obtain ⟨j, hj1, hj, rfl, rfl, n, rfl⟩ := hrel
                        have hbj3 := leastN_lt (farG k x y) l j hl0 hj
                        by_cases hlt3 : j < l.length
                        · have hs1 := Hbd.out _ (getD_memS hlt3)
                          have hs2 := Hbd.out _ (getD_memS hbj3)
                          obtain ⟨b, o, rfl, hb, hc⟩ := hR.at (k := j * 2) (by omega)
                          have hm : leastN (farG k x y) l (j + 1) = if farZ k x y (l.getD j (0, 0)).1 (l.getD j (0, 0)).2 < farZ k x y (l.getD (leastN (farG k x y) l j) (0, 0)).1 (l.getD (leastN (farG k x y) l j) (0, 0)).2 then j else leastN (farG k x y) l j := rfl
                          generalize leastN (farG k x y) l j = m at *
                          have a0 := hc (j * 2) (by omega)
                          have a1 := hc (j * 2 + 1) (by omega)
                          have b0 := hc (m * 2) (by omega)
                          have b1 := hc (m * 2 + 1) (by omega)
                          rw [spotAt_x] at a0 b0
                          rw [spotAt_y, ← Nat.add_assoc] at a1 b1
                          have hj0 : (0 : Int) ≤ (j : Int) := Int.natCast_nonneg _
                          have hj1' : (j : Int) < (l.length : Int) := by omega
                          have hm0 : (0 : Int) ≤ (m : Int) := Int.natCast_nonneg _
                          have hm1 : (m : Int) < (l.length : Int) := by omega
                          generalize (l.getD j (0, 0)).1 = u at *
                          generalize (l.getD j (0, 0)).2 = v at *
                          generalize (l.getD m (0, 0)).1 = pp at *
                          generalize (l.getD m (0, 0)).2 = qq at *
                          have C1 : CellAt (wi.drewN n) b (o + j * 2) (.int .i64 u) := a0
                          have C2 : CellAt (wi.drewN n) b (o + j * 2 + 1) (.int .i64 v) := a1
                          have C3 : CellAt (wi.drewN n) b (o + m * 2) (.int .i64 pp) := b0
                          have C4 : CellAt (wi.drewN n) b (o + m * 2 + 1) (.int .i64 qq) := b1
                          have Hm := Lib.hid hm; clear hm
                          clear hc hR a0 a1 b0 b1
                          go_upto_region 20 with (fail)
                          go_region_held3 (fun w' => w'.cell? ⟨b, o + j * 2, none⟩ = some (.int .i64 u) ∧ w'.cell? ⟨b, o + j * 2 + 1, none⟩ = some (.int .i64 v) ∧ w'.cell? ⟨b, o + m * 2, none⟩ = some (.int .i64 pp) ∧ w'.cell? ⟨b, o + m * 2 + 1, none⟩ = some (.int .i64 qq))
                            (first | ((repeat' (apply And.intro)) <;> (refine CellAt.out ?_; (repeat (first | assumption | refine CellAt.bl ?_ (bl_alloc _ _) | refine CellAt.bl ?_ (bl_drew _) | refine CellAt.bl ?_ (bl_drewN _ _) | refine CellAt.bl ?_ (by assumption) | refine CellAt.other ?_ (by intro e; injection e; omega) _)))))
                            ((first | (go_at_call 100; refine (l06Far_any _ _ _ _ _ _ (by omega) (by omega) (by omega) (by omega)).mono ?_; rintro e w1 ⟨rfl, rfl⟩)))
                          clear C1 C2 C3 C4
                          by_cases hlt4 : farZ k x y u v < farZ k x y pp qq
                          · have hm2 := Hm.out
                            rw [if_pos hlt4] at hm2
                            have Hm2 := Lib.hid hm2; clear hm2
                            go_wp2
                            go_roundw
                            case rel => exact ⟨j + 1, by omega, by omega, by go_num, by rw [Hm2.out], n + 1, by rw [← World.drewN_drewN]⟩
                            case measure => simp [intOf]; omega
                          · have hm2 := Hm.out
                            rw [if_neg hlt4] at hm2
                            have hle : farZ k x y pp qq ≤ farZ k x y u v := Int.not_lt.1 hlt4
                            have Hm2 := Lib.hid hm2; clear hm2
                            clear hlt4
                            go_wp2
                            go_roundw
                            case rel => exact ⟨j + 1, by omega, by omega, by go_num, by rw [Hm2.out], n + 1, by rw [← World.drewN_drewN]⟩
                            case measure => simp [intOf]; omega
                        · obtain rfl : j = l.length := by omega
                          have hrow2 := own_drewN hrow n
                          have hbj2 := hbj.trans ((bl_drewN wi n).mono hbs2)
                          have hbs3 := hbj2.size
                          generalize leastN (farG k x y) l l.length = m at *
                          clear hrow hbj hR
                          go_wp2_with (at_builtin; refine wpList_push rfl _ _ 37 rfl wo.heap.size 2 (.int .i64 0) 1 8 Try.underlying37 info_i64 rfl (by decide) (.slice q2 x d2) x _ rfl hrow2 _ 1 rfl rfl (one_i64 _) (by omega) (by simp [maxLen]; omega) hbs3 ?_; intro g' cap w2 hown2 hgr hat hlt2)
                          have hb3 := below_own hbj2 hgr (own_ge hrow2) hbs3
                          go_roundw
                          case rel => exact ⟨x + 1, by omega, by go_num, _, _, rfl, by rw [Hsu.out, intCells_snoc]; exact hown2, hb3⟩
                          case measure => simp [intOf]; omega
                    · obtain rfl : x = Wn := by omega
                      have hown' := own_below hown hbj (Nat.le_refl _)
                      have hx1 := RowRel.own hrow
                      have hS1 := S.below.trans (hbj.mono hsz)
                      have hsz1 := hS1.size
                      have hgs := gridL_succ x y d
                      have Hgs := Lib.hid hgs; clear hgs
                      go_wp2_with (at_builtin; refine wpList_push rfl _ _ 43 rfl w.heap.size 37 (.slice none 0 0) 1 24 Try.underlying43 info_ints rfl (by decide) (.slice q (gridL x y d).length c') (gridL x y d).length _ rfl hown' _ 1 rfl rfl (one_slice _ _ _) (by omega) (by simp [maxLen]; omega) hsz1 ?_; intro g' cap w2 hown2 hgr hat hlt2)
                      have J2 := OwnIntss.push J hbj hx1 hsz hgr (at_cases hat) ⟨_, _, rfl⟩ hown2
                      rw [← Hgs.out] at J2
                      have S2 : Since w w2 := ⟨below_own hS1 hgr (own_ge hown') hsz1⟩
                      go_roundw
                      case rel => exact ⟨y + 1, by omega, by go_num, ⟨_, J2⟩, S2⟩
                      case measure => simp [intOf]; omega
                · obtain rfl : y = Hn := by omega
                  have O2 : OwnSS w.heap.size wo _ (gridL Wn y d) := ⟨vs, J⟩
                  go_wp2
                  go_ret2
                  exact ⟨_, by rw [Hall.out]; rfl, by rw [Hv4.out]; exact O2, S.below⟩
end Go.Proofs.Ytakoklldmdbphaa
