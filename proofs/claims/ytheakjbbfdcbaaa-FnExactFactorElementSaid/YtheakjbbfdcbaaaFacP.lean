/- Contract of the program's FactorElement. -/
import Derived.Test.YtheakjbbfdcbaaaFacL
set_option linter.unusedVariables false
set_option linter.unusedSimpArgs false
namespace Go.Proofs.Ytheakjbbfdcbaaa
open Go.RowKit Go.Sort

/-- A row read at a world, by name. -/
structure RdA (w : World) (p : Option Addr) (m : Nat) (f : Nat → Value) : Prop where
  rd : Rd w p m f
theorem RdA.bl {w w' : World} {p : Option Addr} {m : Nat} {f : Nat → Value} (h : RdA w p m f) (hb : Below w.heap.size w w') : RdA w' p m f := ⟨h.rd.bl hb⟩
/-- The offsets that stay inside: a slice that is never nil. -/
structure FaRel (xs : List (Int × Int)) (n : Nat) (w5 : World) (v : Value) (wr : World) : Prop where
  own : ∃ g d, v = .slice (some ⟨g, 0, none⟩) n d ∧ wr.ownsRow w5.heap.size 45 2 v n (spotCells xs)
  since : Since w5 wr
theorem FaRel.bl {xs : List (Int × Int)} {n : Nat} {w5 : World} {v : Value} {wr w' : World} (h : FaRel xs n w5 v wr) (hb : Below wr.heap.size wr w') : FaRel xs n w5 v w' := by
  obtain ⟨g, d, hv, ho⟩ := h.own
  exact ⟨⟨g, d, hv, own_below ho hb (Nat.le_refl _)⟩, h.since.bl hb⟩
theorem FaRel.start (w5 : World) : FaRel [] 0 w5 (.slice (some ⟨w5.heap.size, 0, none⟩) 0 0) (w5.alloc (.cells #[] 45)) :=
  ⟨⟨_, _, rfl, World.ownsRow_made w5 #[] 0 (Nat.le_refl _) (by decide) rfl⟩, (Since.refl w5).alloc _⟩
set_option maxRecDepth 100000 in
set_option maxHeartbeats 16000000 in
theorem factor_any (p : Option Addr) (c : Nat) (e : List (Int × Int)) (w : World) (he : e.length ≤ 1048576) (hr : Rd w p (e.length * 2) (spotAt e)) :
    Calls Try.prog 13 #[.agg #[.slice p e.length c]] w fun r w' => ∃ v u, r = .returned (.tuple #[.agg #[v], .agg #[u], .bool (facOk e)]) ∧ OwnSpots w.heap.size w' v (facA e) ∧ OwnSpots w.heap.size w' u (facB e) ∧ Below w.heap.size w w' ∧ ∀ k, v.ownBlock = some k → u.ownBlock = some k → False := by
  have S := (((Since.refl w).alloc (.cells #[.slice p e.length c] 28)).alloc (.cells #[.slice none 0 0] 28)).alloc (.cells #[.slice none 0 0] 28)
  have X := ((Box.new w (.slice p e.length c) 28).alloc (.cells #[.slice none 0 0] 28)).alloc (.cells #[.slice none 0 0] 28)
  have Y := (Box.new (w.alloc (.cells #[.slice p e.length c] 28)) (.slice none 0 0) 28).alloc (.cells #[.slice none 0 0] 28)
  have Z := Box.new ((w.alloc (.cells #[.slice p e.length c] 28)).alloc (.cells #[.slice none 0 0] 28)) (.slice none 0 0) 28
  simp only [World.size_alloc] at Y Z
  have D := ((hr.alloc (.cells #[.slice p e.length c] 28)).alloc (.cells #[.slice none 0 0] 28)).alloc (.cells #[.slice none 0 0] 28)
  have c0 := validElement_any p c e _ he D
  cases hok : okEl e
  · obtain ⟨k1, k2, k3⟩ := fac_none (facR_bad hok)
    rw [k1, k2, k3]
    rw [hok] at c0
    have x0 := X.cell
    have C0 := Lib.hid c0; clear c0
    have Hok := Lib.hid hok; clear hok
    have K1 := Lib.hid k1; clear k1
    have K2 := Lib.hid k2; clear k2
    have K3 := Lib.hid k3; clear k3
    go_enter Try.func13, Try.ntmps13
    go_wp2_with fail
    refine C0.out.mono ?_
    rintro r w1 ⟨rfl, hb⟩
    replace S := S.bl hb
    have Y1 := Y.bl hb
    have Z1 := Z.bl hb
    have f0 := Y1.frozen
    have f1 := Y1.cell
    have g0 := Z1.frozen
    have g1 := Z1.cell
    have s5 : Below w.heap.size w ((w1.setCell ⟨w.heap.size + 1, 0, none⟩ (.slice none 0 0)).setCell ⟨w.heap.size + 1 + 1, 0, none⟩ (.slice none 0 0)) := (S.below.setCell (by simp; try omega) _).setCell (by simp; try omega) _
    have e0 := ((Y1.set (.slice none 0 0)).other (a := ⟨w.heap.size + 1 + 1, 0, none⟩) (by simp) (.slice none 0 0)).cell
    have e1 := ((Z1.other (a := ⟨w.heap.size + 1, 0, none⟩) (by simp) (.slice none 0 0)).set (.slice none 0 0)).cell
    have S5 := Lib.hid s5; clear s5
    clear S Y1 Z1 X Y Z D hb C0 x0
    go_wp2
    exact bodyPost_ret (v := .tuple #[.agg #[.slice none 0 0], .agg #[.slice none 0 0], .bool false]) (by simp [results, Try.results13, go_sem, e0, e1]) rfl ⟨_, _, rfl, OwnSpots.nil _ _, OwnSpots.nil _ _, S5.out, fun k h => by cases h⟩
  · rw [hok] at c0
    have hfr := facR_ok hok
    obtain ⟨sm, hl50⟩ := okEl_small hok
    have x0 := X.cell
    have C0 := Lib.hid c0; clear c0
    have Hok := Lib.hid hok; clear hok
    have Hfr := Lib.hid hfr; clear hfr
    have Sm := Lib.hid sm; clear sm
    go_enter Try.func13, Try.ntmps13
    go_wp2_with fail
    refine C0.out.mono ?_
    rintro r w1 ⟨rfl, hb⟩
    replace S := S.bl hb
    replace X := X.bl hb
    replace Y := Y.bl hb
    replace Z := Z.bl hb
    replace D := D.bl hb
    have hw1 := hb.size
    simp only [World.size_alloc] at hw1
    clear hb C0 x0 hr
    go_wp2
    go_loopw [5] (fun i wr => ∃ y : Nat, y ≤ 5 ∧ i = .int .i64 y ∧ facN e (9 * y) = none ∧ Since w1 wr) (fun i _ => 5 - (intOf i).toNat)
    case atStart => exact ⟨0, by omega, rfl, rfl, Since.refl _⟩
    case round =>
      obtain ⟨y, hy, rfl, hno, U⟩ := hrel
      have hy0 : (0 : Int) ≤ (y : Int) := Int.natCast_nonneg _
      by_cases hy5 : y < 5
      · have hy4 : (y : Int) ≤ 4 := by omega
        have i0 : ∃ (i : Nat) (x : Int), i ≤ 9 ∧ Value.int .i64 (-4) = .int .i64 x ∧ x = (i : Int) - 4 ∧ facN e (9 * y + i) = none ∧ Since w1 wr := ⟨0, -4, by omega, rfl, by omega, hno, U⟩
        have I0 := Lib.hid i0; clear i0
        clear hno U
        go_wp2
        go_loopw [6] (fun v wr => ∃ (i : Nat) (x : Int), i ≤ 9 ∧ v = .int .i64 x ∧ x = (i : Int) - 4 ∧ facN e (9 * y + i) = none ∧ Since w1 wr) (fun v _ => (5 - intOf v).toNat)
        case atStart => exact I0.out
        case round =>
          clear I0
          obtain ⟨i, x, hi, rfl, hx, hno, U⟩ := hrel
          have hxa : x ≤ (i : Int) - 4 := by omega
          have hxb : (i : Int) - 4 ≤ x := by omega
          by_cases hi9 : i < 9
          · have hv : vC (9 * y + i) = (x, (y : Int)) := by rw [vC_at y hi9, hx]
            clear hx
            have hx4 : x ≤ 4 := by omega
            have B := Blk.new wr #[.int .i64 x, .int .i64 (y : Int)] 45
            have U1 := U.alloc (.cells #[.int .i64 x, .int .i64 (y : Int)] 45)
            have b0 := B.cell 0 rfl
            have b1 := B.cell 1 rfl
            have co := fun w => spotOrder_any x (y : Int) 0 0 w
            have ho := ord_bef0 x (y : Int)
            cases hbf : befB (0, 0) (x, (y : Int))
            · rw [hbf] at ho
              simp only [Bool.not_false, decide_eq_true_eq] at ho
              have hT : facT e (x, (y : Int)) = false := by rw [facT, hbf]; rfl
              have hmi := facN_miss hno hv hT
              obtain ⟨z, ez⟩ : ∃ z, ordZ (x, (y : Int)) (0, 0) = z := ⟨_, rfl⟩
              simp only [ez] at co ho
              have Co := Lib.hid co; clear co
              have Hv := Lib.hid hv; clear hv
              have Hbf := Lib.hid hbf; clear hbf
              have HT := Lib.hid hT; clear hT
              have Hmi := Lib.hid hmi; clear hmi
              have Hno := Lib.hid hno; clear hno
              have Ez := Lib.hid ez; clear ez
              go_wp2_with fail
              refine (Co.out _).mono ?_
              rintro r w2 ⟨rfl, hb⟩
              have U2 := U1.bl hb
              clear hb b0 b1 B U1 Co U
              go_wp2
              go_roundw
              case rel => exact ⟨i + 1, x + 1, by omega, rfl, by omega, Hmi.out, U2⟩
              case measure => simp [intOf]; omega
            · rw [hbf] at ho
              simp only [Bool.not_true, decide_eq_false_iff_not] at ho
              obtain ⟨z, ez⟩ : ∃ z, ordZ (x, (y : Int)) (0, 0) = z := ⟨_, rfl⟩
              simp only [ez] at co ho
              have Co := Lib.hid co; clear co
              have Hv := Lib.hid hv; clear hv
              have Hbf := Lib.hid hbf; clear hbf
              have Hno := Lib.hid hno; clear hno
              have Ez := Lib.hid ez; clear ez
              go_wp2_with fail
              refine (Co.out _).mono ?_
              rintro r w2 ⟨rfl, hb⟩
              replace U1 := U1.bl hb
              replace B := B.bl hb
              replace b0 := B.cell 0 rfl
              replace b1 := B.cell 1 rfl
              clear hb Co U
              have o8 := own_two w2.heap.size w2 (0, 0) (x, (y : Int)) (Nat.le_refl _)
              have vv := U1.alloc (.cells #[.int .i64 0, .int .i64 0, .int .i64 x, .int .i64 (y : Int)] 45)
              have B5 := B.alloc (.cells #[.int .i64 0, .int .i64 0, .int .i64 x, .int .i64 (y : Int)] 45)
              have x0 := (X.bl vv.below).cell
              have hs5 : (w2.alloc (.cells #[.int .i64 0, .int .i64 0, .int .i64 x, .int .i64 (y : Int)] 45)).heap.size = w2.heap.size + 1 := World.size_alloc _ _
              have hs2 := U1.size
              have x1 := ((X.bl vv.below).alloc (.cells #[] 45)).cell
              have O8 := Lib.hid o8; clear o8
              have Vv := Lib.hid vv; clear vv
              clear U1 B
              go_wp2
              clear b0 b1 x0 x1
              generalize w2.alloc (.cells #[.int .i64 0, .int .i64 0, .int .i64 x, .int .i64 (y : Int)] 45) = w5 at *
              have r0 : FaRel (restN e (x, (y : Int)) 0) 0 w5 (.slice (some ⟨w5.heap.size, 0, none⟩) 0 0) (w5.alloc (.cells #[] 45)) := by
                rw [restN_zero]
                exact FaRel.start w5
              obtain ⟨vb, evb⟩ : ∃ vb, wr.heap.size = vb := ⟨_, rfl⟩
              simp only [evb] at B5 ⊢
              clear evb
              have R0 := Lib.hid r0; clear r0
              go_loopw [9, 39] (fun s9 i wr => ∃ k n : Nat, k ≤ e.length ∧ i = .int .i64 k ∧ Hid (n = (restN e (x, (y : Int)) k).length) ∧ FaRel (restN e (x, (y : Int)) k) n w5 s9 wr) (fun _ i _ => e.length - (intOf i).toNat)
              case atStart => exact ⟨0, 0, Nat.zero_le _, rfl, Lib.hid (by simp [restN_zero]), by have h := R0.out; rw [hs5] at h; exact h⟩
              case round =>
                clear R0
                obtain ⟨k, n, hk, rfl, HN, r⟩ := hrel
                have U2 := Vv.out.bl r.since.below
                have B2 := B5.bl r.since.below
                have hk0 : (0 : Int) ≤ (k : Int) := Int.natCast_nonneg _
                have hnk : n ≤ 50 := by have h1 := HN.out; have := restN_len e (x, (y : Int)) k; omega
                by_cases hke : k < e.length
                · have hk1 : (k : Int) < (e.length : Int) := by omega
                  obtain ⟨pb, po, rfl, hpb, hpc⟩ := (D.bl U2.below).at (k := k * 2) (by omega)
                  have a0 := hpc (k * 2) (by omega)
                  have a1 := hpc (k * 2 + 1) (by omega)
                  rw [spotAt_x] at a0
                  rw [spotAt_y, ← Nat.add_assoc] at a1
                  have hsm := Sm.out.at hke
                  have hyes := fun s hs hm => restN_yes (e := e) (v := (x, (y : Int))) (s := s) hke hs hm
                  have hno2 := fun s hs hm => restN_no (e := e) (v := (x, (y : Int))) (s := s) hke hs hm
                  obtain ⟨⟨u, v⟩, eu⟩ : ∃ s, e.getD k (0, 0) = s := ⟨_, rfl⟩
                  rw [eu] at a0 a1 hsm
                  dsimp only at a0 a1 hsm
                  obtain ⟨hu, hv2⟩ := hsm
                  have rq := r.bl (bl_alloc wr (.cells #[.int .i64 u, .int .i64 v] 45))
                  have aq := Blk.new wr #[.int .i64 u, .int .i64 v] 45
                  have bq := B2.alloc (.cells #[.int .i64 u, .int .i64 v] 45)
                  have xq := (X.bl U2.below).alloc (.cells #[.int .i64 u, .int .i64 v] 45)
                  have rq2 : RdA (wr.alloc (.cells #[.int .i64 u, .int .i64 v] 45)) (some ⟨pb, po, none⟩) (e.length * 2) (spotAt e) := ⟨(D.bl U2.below).alloc _⟩
                  have qx : CellAt (wr.alloc (.cells #[.int .i64 u, .int .i64 v] 45)) w.heap.size 0 (.slice (some ⟨pb, po, none⟩) e.length c) := xq.cell
                  have qa0 := aq.cat 0 rfl
                  have qa1 := aq.cat 1 rfl
                  have qb0 := bq.cat 0 rfl
                  have qb1 := bq.cat 1 rfl
                  have zx := qx.out
                  have za0 := qa0.out
                  have za1 := qa1.out
                  have zb0 := qb0.out
                  have zb1 := qb1.out
                  have cp := fun w => plus_any u v x (y : Int) w (by omega) (by omega) (by omega) (by omega)
                  have cc := fun w h => contains_any (some ⟨pb, po, none⟩) c e (u + x) (v + (y : Int)) w he h
                  have es : addS (u, v) (x, (y : Int)) = (u + x, v + (y : Int)) := rfl
                  obtain ⟨g1, d1, rfl, -⟩ := r.own
                  by_cases hm : (u + x, v + (y : Int)) ∈ e
                  · simp only [decide_eq_true hm] at cc
                    have hre := hyes _ eu (by rw [es]; exact hm)
                    have Cp := Lib.hid cp; clear cp
                    have Cc := Lib.hid cc; clear cc
                    have Hm := Lib.hid hm; clear hm
                    have Es := Lib.hid es; clear es
                    have Eu := Lib.hid eu; clear eu
                    have Hpc := Lib.hid hpc; clear hpc
                    have Hyes := Lib.hid hyes; clear hyes
                    have Hno2 := Lib.hid hno2; clear hno2
                    have Hre := Lib.hid hre; clear hre
                    have Rq := Lib.hid rq; clear rq
                    have Aq := Lib.hid aq; clear aq
                    clear r xq bq U2 B2
                    go_upto_region 15 with (fail)
                    generalize wr.alloc (.cells #[.int .i64 u, .int .i64 v] 45) = wq at *
                    go_region_held3 (fun w' => w'.cell? ⟨w.heap.size, 0, none⟩ = some (.slice (some ⟨pb, po, none⟩) e.length c) ∧ w'.cell? ⟨wr.heap.size, 0, none⟩ = some (.int .i64 u) ∧ w'.cell? ⟨wr.heap.size, 1, none⟩ = some (.int .i64 v) ∧ w'.cell? ⟨vb, 0, none⟩ = some (.int .i64 x) ∧ w'.cell? ⟨vb, 1, none⟩ = some (.int .i64 (y : Int)))
                      (first | ((repeat' (apply And.intro)) <;> (refine CellAt.out ?_; (repeat (first | assumption | exact Blk.cat (Blk.new _ _ _) _ rfl | refine CellAt.bl ?_ (bl_alloc _ _) | refine CellAt.bl ?_ (bl_drew _) | refine CellAt.bl ?_ (bl_drewN _ _) | refine CellAt.bl ?_ (by assumption) | refine CellAt.other ?_ (by intro e; injection e; omega) _)))))
                      ((first | (go_at_call 42; refine (Cp.out _).mono ?_; rintro r w6 ⟨rfl, hb6⟩) | (go_at_call 41; refine (Cc.out _ (RdA.rd ?_)).mono ?_; (focus ((repeat (first | assumption | refine RdA.bl ?_ (bl_drew _) | refine RdA.bl ?_ (by assumption))); done)); rintro r w7 ⟨rfl, hb7⟩)))
                    have r7 := ((Rq.out.bl (bl_drew _)).bl hb6).bl hb7
                    have A7 := ((Aq.out.bl (bl_drew _)).bl hb6).bl hb7
                    clear hb6 hb7 qx qa0 qa1 qb0 qb1 rq2 Rq Aq
                    obtain ⟨g2, d2, hv3, ho⟩ := r7.own
                    simp only [Value.slice.injEq, Option.some.injEq, Addr.mk.injEq, and_true, true_and] at hv3
                    obtain ⟨rfl, rfl⟩ := hv3
                    have hge2 := r7.since.size
                    have z0 := A7.cell 0 rfl
                    have z1 := A7.cell 1 rfl
                    clear zx za0 za1 zb0 zb1 a0 a1 A7
                    have R7 := Lib.hid r7; clear r7
                    go_wp2_with (at_builtin; refine wpList_push rfl _ _ 26 rfl w5.heap.size 45 (.agg #[.int .i64 0, .int .i64 0]) 2 16 Try.underlying26 info_spot rfl (by decide) (.slice (some ⟨g1, 0, none⟩) n d1) n _ rfl ho _ 1 rfl rfl (one_spot _ _) (by omega) (by simp [maxLen]; omega) hge2 ?_; intro g' cap w3 hown2 hgr hat hlt2)
                    have hgq := own_ge ho
                    have r3 : FaRel (restN e (x, (y : Int)) (k + 1)) (n + 1) w5 (.slice (some ⟨g', 0, none⟩) (n + 1) cap) w3 := by
                      refine ⟨⟨g', cap, rfl, ?_⟩, ⟨below_own R7.out.since.below hgr (fun i hi => by have := hgq i hi; omega) R7.out.since.size⟩⟩
                      rw [Hre.out, spotCells_snoc]
                      exact hown2
                    have R3 := Lib.hid r3; clear r3
                    clear hown2 hgr hat ho z0 z1
                    go_roundw
                    case rel => exact ⟨k + 1, n + 1, by omega, by go_num, Lib.hid (by rw [Hre.out, List.length_append, ← HN.out]; rfl), R3.out⟩
                    case measure => simp [intOf]; omega
                  · simp only [decide_eq_false hm] at cc
                    have hre := hno2 _ eu (by rw [es]; exact hm)
                    have Cp := Lib.hid cp; clear cp
                    have Cc := Lib.hid cc; clear cc
                    have Hm := Lib.hid hm; clear hm
                    have Es := Lib.hid es; clear es
                    have Eu := Lib.hid eu; clear eu
                    have Hpc := Lib.hid hpc; clear hpc
                    have Hyes := Lib.hid hyes; clear hyes
                    have Hno2 := Lib.hid hno2; clear hno2
                    have Hre := Lib.hid hre; clear hre
                    have Rq := Lib.hid rq; clear rq
                    have Aq := Lib.hid aq; clear aq
                    clear r xq bq U2 B2
                    go_upto_region 15 with (fail)
                    generalize wr.alloc (.cells #[.int .i64 u, .int .i64 v] 45) = wq at *
                    go_region_held3 (fun w' => w'.cell? ⟨w.heap.size, 0, none⟩ = some (.slice (some ⟨pb, po, none⟩) e.length c) ∧ w'.cell? ⟨wr.heap.size, 0, none⟩ = some (.int .i64 u) ∧ w'.cell? ⟨wr.heap.size, 1, none⟩ = some (.int .i64 v) ∧ w'.cell? ⟨vb, 0, none⟩ = some (.int .i64 x) ∧ w'.cell? ⟨vb, 1, none⟩ = some (.int .i64 (y : Int)))
                      (first | ((repeat' (apply And.intro)) <;> (refine CellAt.out ?_; (repeat (first | assumption | exact Blk.cat (Blk.new _ _ _) _ rfl | refine CellAt.bl ?_ (bl_alloc _ _) | refine CellAt.bl ?_ (bl_drew _) | refine CellAt.bl ?_ (bl_drewN _ _) | refine CellAt.bl ?_ (by assumption) | refine CellAt.other ?_ (by intro e; injection e; omega) _)))))
                      ((first | (go_at_call 42; refine (Cp.out _).mono ?_; rintro r w6 ⟨rfl, hb6⟩) | (go_at_call 41; refine (Cc.out _ (RdA.rd ?_)).mono ?_; (focus ((repeat (first | assumption | refine RdA.bl ?_ (bl_drew _) | refine RdA.bl ?_ (by assumption))); done)); rintro r w7 ⟨rfl, hb7⟩)))
                    have r7 := ((Rq.out.bl (bl_drew _)).bl hb6).bl hb7
                    have A7 := ((Aq.out.bl (bl_drew _)).bl hb6).bl hb7
                    clear hb6 hb7 qx qa0 qa1 qb0 qb1 rq2 Rq Aq
                    clear zx za0 za1 zb0 zb1 a0 a1 A7
                    have R7 := Lib.hid r7; clear r7
                    go_wp2
                    go_roundw
                    case rel => exact ⟨k + 1, n, by omega, by go_num, Lib.hid (by rw [Hre.out]; exact HN.out), by rw [Hre.out]; exact R7.out⟩
                    case measure => simp [intOf]; omega
                · obtain rfl : k = e.length := by omega
                  have hnl := HN.out
                  rw [restN_all] at r hnl
                  obtain ⟨g9, d9, rfl, ho9⟩ := r.own
                  have O9 : OwnSpots w5.heap.size wr (.slice (some ⟨g9, 0, none⟩) (restL e (x, (y : Int))).length d9) (restL e (x, (y : Int))) := ⟨_, _, rfl, by rw [← hnl]; exact ho9⟩
                  have O8w := O8.out.bl r.since.below
                  have hRs := restL_small (x, (y : Int)) Sm.out
                  have hRl := restL_len e (x, (y : Int))
                  have hfT : ∀ b, decide (setL (sumL [(0, 0), (x, (y : Int))] (restL e (x, (y : Int)))) = e) = b → facT e (x, (y : Int)) = b := fun b h => by rw [facT, Hbf.out, h]; rfl
                  obtain ⟨R, eR⟩ : ∃ R, restL e (x, (y : Int)) = R := ⟨_, rfl⟩
                  rw [eR] at O9 hnl hRs hRl hfT
                  subst hnl
                  obtain ⟨A0, eA0⟩ : ∃ A0, [((0 : Int), (0 : Int)), (x, (y : Int))] = A0 := ⟨_, rfl⟩
                  have hA2 : A0.length = 2 := by rw [← eA0]; rfl
                  have hAs : Small A0 := by
                    rw [← eA0]
                    intro s hs
                    simp only [List.mem_cons, List.not_mem_nil, or_false] at hs
                    rcases hs with rfl | rfl
                    · dsimp only; omega
                    · dsimp only; omega
                  have ra8 : RdA wr (some ⟨w2.heap.size, 0, none⟩) (A0.length * 2) (spotAt A0) := ⟨by have h := O8w.rd; rw [eA0] at h; exact h⟩
                  have ra9 : RdA wr (some ⟨g9, 0, none⟩) (R.length * 2) (spotAt R) := ⟨O9.rd⟩
                  rw [eA0] at O8w hfT
                  have cs := fun w h1 h2 => sums_any (some ⟨w2.heap.size, 0, none⟩) (some ⟨g9, 0, none⟩) 2 d9 A0 R w (by omega) (by omega) hAs hRs h1 h2
                  have hsl := setL_len (sumL A0 R)
                  rw [sumL_len, hA2] at hsl
                  have hml : (setL (sumL A0 R)).length ≤ 1048576 := by omega
                  obtain ⟨M, eM⟩ : ∃ M, setL (sumL A0 R) = M := ⟨_, rfl⟩
                  simp only [eM] at cs hml hfT
                  simp only [hA2] at cs ra8
                  have xq := X.bl U2.below
                  have qx : CellAt wr w.heap.size 0 (.slice p e.length c) := xq.cell
                  have rq2 : RdA wr p (e.length * 2) (spotAt e) := ⟨D.bl U2.below⟩
                  have zx := qx.out
                  have ce := fun g f w h1 h2 => equal_any (some ⟨g, 0, none⟩) p f c M e w hml he h1 h2
                  have hfl := run_offsets
                  by_cases hM : M = e
                  · simp only [decide_eq_true hM] at ce
                    have hT := hfT true (decide_eq_true hM)
                    obtain ⟨k1, k2, k3⟩ := fac_some (Hfr.out.trans (facN_hit Hno.out Hv.out hT (by omega)))
                    rw [eA0] at k2
                    rw [eR] at k3
                    have Cs := Lib.hid cs; clear cs
                    have Ce := Lib.hid ce; clear ce
                    have HM := Lib.hid hM; clear hM
                    have HT := Lib.hid hT; clear hT
                    have K1 := Lib.hid k1; clear k1
                    have K2 := Lib.hid k2; clear k2
                    have K3 := Lib.hid k3; clear k3
                    have EM := Lib.hid eM; clear eM
                    have HA2 := Lib.hid hA2; clear hA2
                    have EA0 := Lib.hid eA0; clear eA0
                    have ER := Lib.hid eR; clear eR
                    have HAs := Lib.hid hAs; clear hAs
                    have HRs := Lib.hid hRs; clear hRs
                    have HfT := Lib.hid hfT; clear hfT
                    clear r ho9 B2 xq
                    go_upto_region 18 with (fail)
                    go_region_held3 (fun w' => w'.cell? ⟨w.heap.size, 0, none⟩ = some (.slice p e.length c))
                      (first | ((repeat' (apply And.intro)) <;> (refine CellAt.out ?_; (repeat (first | assumption | exact Blk.cat (Blk.new _ _ _) _ rfl | refine CellAt.bl ?_ (bl_alloc _ _) | refine CellAt.bl ?_ (bl_drew _) | refine CellAt.bl ?_ (bl_drewN _ _) | refine CellAt.bl ?_ (by assumption) | refine CellAt.other ?_ (by intro e; injection e; omega) _)))))
                      ((first | (go_at_call 44; refine (Cs.out _ (RdA.rd ?_) (RdA.rd ?_)).mono ?_; (focus ((repeat (first | assumption | refine RdA.bl ?_ (bl_drew _) | refine RdA.bl ?_ (by assumption))); done)); (focus ((repeat (first | assumption | refine RdA.bl ?_ (bl_drew _) | refine RdA.bl ?_ (by assumption))); done)); rintro r w6 ⟨gM, fM, rfl, OM, hb6⟩; have rM := RdA.mk OM.rd) | (go_at_call 43; refine (Ce.out _ _ _ (RdA.rd ?_) (RdA.rd ?_)).mono ?_; (focus ((repeat (first | assumption | refine RdA.bl ?_ (bl_drew _) | refine RdA.bl ?_ (by assumption))); done)); (focus ((repeat (first | assumption | refine RdA.bl ?_ (bl_drew _) | refine RdA.bl ?_ (by assumption))); done)); rintro r w7 ⟨rfl, hb7⟩)))
                    have U9 := ((U2.bl (bl_drew _)).bl hb6).bl hb7
                    have O8z := ((O8w.bl (bl_drew _)).bl hb6).bl hb7
                    have O9z := ((O9.bl (bl_drew _)).bl hb6).bl hb7
                    clear hb6 hb7 qx rq2 ra8 ra9 rM OM O8w O9 U2
                    have hw19 : w1.heap.size ≤ w2.heap.size := hs2
                    have Y1 := Y.bl U9.below
                    have Z1 := Z.bl U9.below
                    have f0 := Y1.frozen
                    have f1 := Y1.cell
                    have g0 := Z1.frozen
                    have g1 := Z1.cell
                    have s5 : Below w.heap.size w ((w7.setCell ⟨w.heap.size + 1, 0, none⟩ (.slice (some ⟨w2.heap.size, 0, none⟩) 2 2)).setCell ⟨w.heap.size + 1 + 1, 0, none⟩ (.slice (some ⟨g9, 0, none⟩) R.length d9)) := ((S.bl U9.below).below.setCell (by simp; try omega) _).setCell (by simp; try omega) _
                    have e0 := ((Y1.set (.slice (some ⟨w2.heap.size, 0, none⟩) 2 2)).other (a := ⟨w.heap.size + 1 + 1, 0, none⟩) (by simp) (.slice (some ⟨g9, 0, none⟩) R.length d9)).cell
                    have e1 := ((Z1.other (a := ⟨w.heap.size + 1, 0, none⟩) (by simp) (.slice (some ⟨w2.heap.size, 0, none⟩) 2 2)).set (.slice (some ⟨g9, 0, none⟩) R.length d9)).cell
                    have g9h : w5.heap.size ≤ g9 := (O9z.ge g9 rfl).1
                    have o8v : OwnSpots w.heap.size ((w7.setCell ⟨w.heap.size + 1, 0, none⟩ (.slice (some ⟨w2.heap.size, 0, none⟩) 2 2)).setCell ⟨w.heap.size + 1 + 1, 0, none⟩ (.slice (some ⟨g9, 0, none⟩) R.length d9)) (.slice (some ⟨w2.heap.size, 0, none⟩) 2 2) A0 := by
                      obtain ⟨p', c', hv, ho⟩ := O8z
                      exact ⟨p', c', hv, own_mono (own_other (own_other ho (by simp [Value.ownBlock]; omega) _) (by simp [Value.ownBlock]; omega) _) (by omega)⟩
                    have o9v : OwnSpots w.heap.size ((w7.setCell ⟨w.heap.size + 1, 0, none⟩ (.slice (some ⟨w2.heap.size, 0, none⟩) 2 2)).setCell ⟨w.heap.size + 1 + 1, 0, none⟩ (.slice (some ⟨g9, 0, none⟩) R.length d9)) (.slice (some ⟨g9, 0, none⟩) R.length d9) R := by
                      obtain ⟨p', c', hv, ho⟩ := O9z
                      exact ⟨p', c', hv, own_mono (own_other (own_other ho (by simp [Value.ownBlock]; omega) _) (by simp [Value.ownBlock]; omega) _) (by omega)⟩
                    have S5 := Lib.hid s5; clear s5
                    have O8v := Lib.hid o8v; clear o8v
                    have O9v := Lib.hid o9v; clear o9v
                    clear O8z O9z S Y1 Z1 X Y Z D U9 zx
                    go_wp2
                    exact bodyPost_ret (v := .tuple #[.agg #[.slice (some ⟨w2.heap.size, 0, none⟩) 2 2], .agg #[.slice (some ⟨g9, 0, none⟩) R.length d9], .bool true]) (by simp [results, Try.results13, go_sem, e0, e1]) rfl ⟨.slice (some ⟨w2.heap.size, 0, none⟩) 2 2, .slice (some ⟨g9, 0, none⟩) R.length d9, by rw [K1.out], by rw [K2.out]; exact O8v.out, by rw [K3.out]; exact O9v.out, S5.out, fun k h1 h2 => by
                      have h3 : w2.heap.size = k := Option.some.inj h1
                      have h4 : g9 = k := Option.some.inj h2
                      omega⟩
                  · simp only [decide_eq_false hM] at ce
                    have hT := hfT false (decide_eq_false hM)
                    have hmi := facN_miss Hno.out Hv.out hT
                    have Cs := Lib.hid cs; clear cs
                    have Ce := Lib.hid ce; clear ce
                    have HM := Lib.hid hM; clear hM
                    have HT := Lib.hid hT; clear hT
                    have EM := Lib.hid eM; clear eM
                    have HA2 := Lib.hid hA2; clear hA2
                    have EA0 := Lib.hid eA0; clear eA0
                    have ER := Lib.hid eR; clear eR
                    have HAs := Lib.hid hAs; clear hAs
                    have HRs := Lib.hid hRs; clear hRs
                    have HfT := Lib.hid hfT; clear hfT
                    have Hmi := Lib.hid hmi; clear hmi
                    clear r ho9 B2 xq
                    go_upto_region 18 with (fail)
                    go_region_held3 (fun w' => w'.cell? ⟨w.heap.size, 0, none⟩ = some (.slice p e.length c))
                      (first | ((repeat' (apply And.intro)) <;> (refine CellAt.out ?_; (repeat (first | assumption | exact Blk.cat (Blk.new _ _ _) _ rfl | refine CellAt.bl ?_ (bl_alloc _ _) | refine CellAt.bl ?_ (bl_drew _) | refine CellAt.bl ?_ (bl_drewN _ _) | refine CellAt.bl ?_ (by assumption) | refine CellAt.other ?_ (by intro e; injection e; omega) _)))))
                      ((first | (go_at_call 44; refine (Cs.out _ (RdA.rd ?_) (RdA.rd ?_)).mono ?_; (focus ((repeat (first | assumption | refine RdA.bl ?_ (bl_drew _) | refine RdA.bl ?_ (by assumption))); done)); (focus ((repeat (first | assumption | refine RdA.bl ?_ (bl_drew _) | refine RdA.bl ?_ (by assumption))); done)); rintro r w6 ⟨gM, fM, rfl, OM, hb6⟩; have rM := RdA.mk OM.rd) | (go_at_call 43; refine (Ce.out _ _ _ (RdA.rd ?_) (RdA.rd ?_)).mono ?_; (focus ((repeat (first | assumption | refine RdA.bl ?_ (bl_drew _) | refine RdA.bl ?_ (by assumption))); done)); (focus ((repeat (first | assumption | refine RdA.bl ?_ (bl_drew _) | refine RdA.bl ?_ (by assumption))); done)); rintro r w7 ⟨rfl, hb7⟩)))
                    have U9 := ((U2.bl (bl_drew _)).bl hb6).bl hb7
                    have O8z := ((O8w.bl (bl_drew _)).bl hb6).bl hb7
                    have O9z := ((O9.bl (bl_drew _)).bl hb6).bl hb7
                    clear hb6 hb7 qx rq2 ra8 ra9 rM OM O8w O9 U2
                    clear zx
                    go_wp2
                    go_roundw
                    case rel => exact ⟨i + 1, x + 1, by omega, rfl, by omega, Hmi.out, U9⟩
                    case measure => simp [intOf]; omega
          · obtain rfl : i = 9 := by omega
            have hno9 : facN e (9 * (y + 1)) = none := by rw [show 9 * (y + 1) = 9 * y + 9 by omega]; exact hno
            have h5 : ¬ x ≤ 4 := by omega
            have Hno9 := Lib.hid hno9; clear hno9
            have Hno := Lib.hid hno; clear hno
            clear hx
            go_wp2
            go_roundw
            case rel => exact ⟨y + 1, by omega, by go_num, Hno9.out, U⟩
            case measure => simp [intOf]; omega
      · obtain rfl : y = 5 := by omega
        obtain ⟨k1, k2, k3⟩ := fac_none (Hfr.out.trans hno)
        have Y1 := Y.bl U.below
        have Z1 := Z.bl U.below
        have f0 := Y1.frozen
        have f1 := Y1.cell
        have g0 := Z1.frozen
        have g1 := Z1.cell
        have s5 : Below w.heap.size w ((wr.setCell ⟨w.heap.size + 1, 0, none⟩ (.slice none 0 0)).setCell ⟨w.heap.size + 1 + 1, 0, none⟩ (.slice none 0 0)) := ((S.bl U.below).below.setCell (by simp; try omega) _).setCell (by simp; try omega) _
        have e0 := ((Y1.set (.slice none 0 0)).other (a := ⟨w.heap.size + 1 + 1, 0, none⟩) (by simp) (.slice none 0 0)).cell
        have e1 := ((Z1.other (a := ⟨w.heap.size + 1, 0, none⟩) (by simp) (.slice none 0 0)).set (.slice none 0 0)).cell
        have S5 := Lib.hid s5; clear s5
        have Hno := Lib.hid hno; clear hno
        have K1 := Lib.hid k1; clear k1
        have K2 := Lib.hid k2; clear k2
        have K3 := Lib.hid k3; clear k3
        clear S Y1 Z1 X Y Z D U
        go_wp2
        exact bodyPost_ret (v := .tuple #[.agg #[.slice none 0 0], .agg #[.slice none 0 0], .bool false]) (by simp [results, Try.results13, go_sem, e0, e1]) rfl ⟨.slice none 0 0, .slice none 0 0, by rw [K1.out], by rw [K2.out]; exact OwnSpots.nil _ _, by rw [K3.out]; exact OwnSpots.nil _ _, S5.out, fun k h => by cases h⟩
end Go.Proofs.Ytheakjbbfdcbaaa
