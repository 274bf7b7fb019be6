/- Contract of the reference's FactorElement. -/
import Derived.Test.YtheakjbbfdcbaaaFacL
set_option linter.unusedVariables false
set_option linter.unusedSimpArgs false
namespace Go.Proofs.Ytheakjbbfdcbaaa
open Go.RowKit Go.Sort

/-- The offsets that stay inside, in a variable's block eb. -/
structure FbRel (xs : List (Int × Int)) (n B eb : Nat) (w5 wr : World) (g d : Nat) : Prop where
  box : Box wr eb (.slice (some ⟨g, 0, none⟩) n d) 28
  own : wr.ownsRow B 45 2 (.slice (some ⟨g, 0, none⟩) n d) n (spotCells xs)
  ne : g ≠ eb
  since : Since w5 wr
  lo : w5.heap.size ≤ eb
  hB : w5.heap.size ≤ B
  hB2 : B ≤ wr.heap.size
theorem FbRel.bl {xs : List (Int × Int)} {n B eb : Nat} {w5 wr w' : World} {g d : Nat} (h : FbRel xs n B eb w5 wr g d) (hb : Below wr.heap.size wr w') : FbRel xs n B eb w5 w' g d :=
  ⟨h.box.bl hb, own_below h.own hb (Nat.le_refl _), h.ne, h.since.bl hb, h.lo, h.hB, Nat.le_trans h.hB2 hb.size⟩
theorem FbRel.start (w5 : World) : FbRel [] 0 w5.heap.size (w5.heap.size + 1) w5 ((w5.alloc (.cells #[] 45)).alloc (.cells #[.slice (some ⟨w5.heap.size, 0, none⟩) 0 0] 28)) w5.heap.size 0 := by
  have h := Box.new (w5.alloc (.cells #[] 45)) (.slice (some ⟨w5.heap.size, 0, none⟩) 0 0) 28
  rw [World.size_alloc] at h
  exact ⟨h, own_below (World.ownsRow_made w5 #[] 0 (Nat.le_refl _) (by decide) rfl) (bl_alloc _ _) (Nat.le_refl _), by omega, ((Since.refl w5).alloc _).alloc _, by omega, Nat.le_refl _, by simp; omega⟩
theorem FbRel.push {xs : List (Int × Int)} {n B eb : Nat} {w5 wr w3 : World} {g d g' cap : Nat} {x y : Int} (h : FbRel xs n B eb w5 wr g d) (ho : w3.ownsRow B 45 2 (.slice (some ⟨g', 0, none⟩) (n + 1) cap) (n + 1) (spotCells xs ++ [.int .i64 x, .int .i64 y]))
    (hgr : wr.grownBy w3 (some g)) (hat : some g = some g' ∨ wr.heap.size ≤ g') : FbRel (xs ++ [(x, y)]) (n + 1) B eb w5 (w3.setCell ⟨eb, 0, none⟩ (.slice (some ⟨g', 0, none⟩) (n + 1) cap)) g' cap := by
  have hlb := h.box.lt
  have hne := h.ne
  have hlo := h.lo
  have hB := h.hB
  have hgB := own_ge h.own g rfl
  have hge : g' ≠ eb := by
    rcases hat with h1 | h1
    · cases h1; exact hne
    · omega
  refine ⟨(h.box.grown hgr (by intro e; cases e; exact hne rfl)).set _, own_other (by rw [spotCells_snoc]; exact ho) (by simp [Value.ownBlock]; omega) _, hge, Since.setS ⟨below_grown h.since.below hgr h.since.size (by omega)⟩ (by simp; omega) _, h.lo, h.hB, ?_⟩
  have := h.hB2
  have := hgr.size
  simp
  omega
set_option maxRecDepth 100000 in
set_option maxHeartbeats 16000000 in
theorem sFactor_any (p : Option Addr) (c : Nat) (e : List (Int × Int)) (w : World) (he : e.length ≤ 1048576) (hr : Rd w p (e.length * 2) (spotAt e)) :
    Calls Try.prog 11 #[.agg #[.slice p e.length c]] w fun r w' => ∃ v u, r = .returned (.tuple #[.agg #[v], .agg #[u], .bool (facOk e)]) ∧ OwnSpots w.heap.size w' v (facA e) ∧ OwnSpots w.heap.size w' u (facB e) ∧ Below w.heap.size w w' ∧ ∀ k, v.ownBlock = some k → u.ownBlock = some k → False := by
  have S := (((Since.refl w).alloc (.cells #[.slice p e.length c] 28)).alloc (.cells #[.slice none 0 0] 28)).alloc (.cells #[.slice none 0 0] 28)
  have X := ((Box.new w (.slice p e.length c) 28).alloc (.cells #[.slice none 0 0] 28)).alloc (.cells #[.slice none 0 0] 28)
  have Y := (Box.new (w.alloc (.cells #[.slice p e.length c] 28)) (.slice none 0 0) 28).alloc (.cells #[.slice none 0 0] 28)
  have Z := Box.new ((w.alloc (.cells #[.slice p e.length c] 28)).alloc (.cells #[.slice none 0 0] 28)) (.slice none 0 0) 28
  simp only [World.size_alloc] at Y Z
  have D := ((hr.alloc (.cells #[.slice p e.length c] 28)).alloc (.cells #[.slice none 0 0] 28)).alloc (.cells #[.slice none 0 0] 28)
  have c0 := l03Is_any w.heap.size p c e _ he X.cell D
  cases hok : okEl e
  · obtain ⟨k1, k2, k3⟩ := fac_none (facR_bad hok)
    rw [k1, k2, k3]
    rw [hok] at c0
    have C0 := Lib.hid c0; clear c0
    have Hok := Lib.hid hok; clear hok
    have K1 := Lib.hid k1; clear k1
    have K2 := Lib.hid k2; clear k2
    have K3 := Lib.hid k3; clear k3
    go_enter Try.func11, Try.ntmps11
    go_wp2_with fail
    refine C0.out.mono ?_
    rintro r w1 ⟨rfl, hb⟩
    replace S := S.bl hb
    have Y1 := Y.bl hb
    have Z1 := Z.bl hb
    have f0 := Y1.frozen
    have f1 := Y1.cell
    have g0 := Z1.frozen
    have g1 := Z1.cell
    have e0 := ((Y1.set (.slice none 0 0)).other (a := ⟨w.heap.size + 1 + 1, 0, none⟩) (by simp) (.slice none 0 0)).cell
    have e1 := ((Z1.other (a := ⟨w.heap.size + 1, 0, none⟩) (by simp) (.slice none 0 0)).set (.slice none 0 0)).cell
    have s5 : Below w.heap.size w ((w1.setCell ⟨w.heap.size + 1, 0, none⟩ (.slice none 0 0)).setCell ⟨w.heap.size + 1 + 1, 0, none⟩ (.slice none 0 0)) := (S.below.setCell (by simp; try omega) _).setCell (by simp; try omega) _
    have S5 := Lib.hid s5; clear s5
    clear S Y1 Z1 X Y Z D hb C0
    go_wp2
    exact bodyPost_ret (v := .tuple #[.agg #[.slice none 0 0], .agg #[.slice none 0 0], .bool false]) (by simp [results, Try.results11, go_sem, e0, e1]) rfl ⟨_, _, rfl, OwnSpots.nil _ _, OwnSpots.nil _ _, S5.out, fun k h => by cases h⟩
  · rw [hok] at c0
    have hfr := facR_ok hok
    obtain ⟨sm, hl50⟩ := okEl_small hok
    have C0 := Lib.hid c0; clear c0
    have Hok := Lib.hid hok; clear hok
    have Hfr := Lib.hid hfr; clear hfr
    have Sm := Lib.hid sm; clear sm
    go_enter Try.func11, Try.ntmps11
    go_wp2_with fail
    refine C0.out.mono ?_
    rintro r wa ⟨rfl, hb⟩
    replace S := (S.bl hb).alloc (.cells #[.int .i64 0, .int .i64 0] 45)
    replace X := (X.bl hb).alloc (.cells #[.int .i64 0, .int .i64 0] 45)
    replace Y := (Y.bl hb).alloc (.cells #[.int .i64 0, .int .i64 0] 45)
    replace Z := (Z.bl hb).alloc (.cells #[.int .i64 0, .int .i64 0] 45)
    replace D := (D.bl hb).alloc (.cells #[.int .i64 0, .int .i64 0] 45)
    have Q := Blk.new wa #[.int .i64 0, .int .i64 0] 45
    have hw1 := hb.size
    simp only [World.size_alloc] at hw1
    have hw2 : (wa.alloc (.cells #[.int .i64 0, .int .i64 0] 45)).heap.size = wa.heap.size + 1 := World.size_alloc _ _
    clear hb C0 hr
    go_wp2
    generalize wa.alloc (.cells #[.int .i64 0, .int .i64 0] 45) = w1 at *
    obtain ⟨zb, ezb⟩ : ∃ zb, wa.heap.size = zb := ⟨_, rfl⟩
    simp only [ezb] at Q hw1 hw2 ⊢
    clear ezb
    go_loopw [6] (fun i wr => ∃ y : Nat, y ≤ 5 ∧ i = .int .i64 y ∧ facN e (9 * y) = none ∧ Since w1 wr) (fun i _ => 5 - (intOf i).toNat)
    case atStart => exact ⟨0, by omega, rfl, rfl, Since.refl _⟩
    case round =>
      obtain ⟨y, hy, rfl, hno, U⟩ := hrel
      have hy0 : (0 : Int) ≤ (y : Int) := Int.natCast_nonneg _
      by_cases hy5 : y < 5
      · have hy4 : (y : Int) ≤ 4 := by omega
        have i0 : ∃ (i : Nat) (x : Int), i ≤ 9 ∧ Value.int .i64 (-4) = .int .i64 x ∧ x = (i : Int) - 4 ∧ facN e (9 * y + i) = none ∧ Since w1 wr := ⟨0, -4, by omega, rfl, by omega, hno, U⟩
        have I0 := Lib.hid i0; clear i0
        clear hno U
        go_wp2
        go_loopw [7] (fun v wr => ∃ (i : Nat) (x : Int), i ≤ 9 ∧ v = .int .i64 x ∧ x = (i : Int) - 4 ∧ facN e (9 * y + i) = none ∧ Since w1 wr) (fun v _ => (5 - intOf v).toNat)
        case atStart => exact I0.out
        case round =>
          clear I0
          obtain ⟨i, x, hi, rfl, hx, hno, U⟩ := hrel
          have hxa : x ≤ (i : Int) - 4 := by omega
          have hxb : (i : Int) - 4 ≤ x := by omega
          by_cases hi9 : i < 9
          · have hv : vC (9 * y + i) = (x, (y : Int)) := by rw [vC_at y hi9, hx]
            clear hx
            have hx4 : x ≤ 4 := by omega
            have B := Blk.new wr #[.int .i64 x, .int .i64 (y : Int)] 45
            have U1 := U.alloc (.cells #[.int .i64 x, .int .i64 (y : Int)] 45)
            have b0 := B.cell 0 rfl
            have b1 := B.cell 1 rfl
            have q0 := (Q.bl U1.below).cell 0 rfl
            have q1 := (Q.bl U1.below).cell 1 rfl
            have co := fun w => l03Before_any 0 0 x (y : Int) w
            cases hbf : befB (0, 0) (x, (y : Int))
            · have hT : facT e (x, (y : Int)) = false := by rw [facT, hbf]; rfl
              have hmi := facN_miss hno hv hT
              simp only [hbf] at co
              have Co := Lib.hid co; clear co
              have Hv := Lib.hid hv; clear hv
              have Hbf := Lib.hid hbf; clear hbf
              have HT := Lib.hid hT; clear hT
              have Hmi := Lib.hid hmi; clear hmi
              have Hno := Lib.hid hno; clear hno
              go_wp2_with fail
              refine (Co.out _).mono ?_
              rintro r w2 ⟨rfl, hb⟩
              have U2 := U1.bl hb
              clear hb b0 b1 q0 q1 B U1 Co U
              go_wp2
              go_roundw
              case rel => exact ⟨i + 1, x + 1, by omega, rfl, by omega, Hmi.out, U2⟩
              case measure => simp [intOf]; omega
            · simp only [hbf] at co
              have Co := Lib.hid co; clear co
              have Hv := Lib.hid hv; clear hv
              have Hbf := Lib.hid hbf; clear hbf
              have Hno := Lib.hid hno; clear hno
              go_wp2_with fail
              refine (Co.out _).mono ?_
              rintro r w2 ⟨rfl, hb⟩
              replace U1 := U1.bl hb
              replace B := B.bl hb
              replace b0 := B.cell 0 rfl
              replace b1 := B.cell 1 rfl
              replace q0 := (Q.bl U1.below).cell 0 rfl
              replace q1 := (Q.bl U1.below).cell 1 rfl
              clear hb Co U
              have o8 := (own_two w2.heap.size w2 (0, 0) (x, (y : Int)) (Nat.le_refl _)).bl (bl_alloc _ (.cells #[.slice (some ⟨w2.heap.size, 0, none⟩) 2 2] 28))
              have vv := (U1.alloc (.cells #[.int .i64 0, .int .i64 0, .int .i64 x, .int .i64 (y : Int)] 45)).alloc (.cells #[.slice (some ⟨w2.heap.size, 0, none⟩) 2 2] 28)
              have B5 := (B.alloc (.cells #[.int .i64 0, .int .i64 0, .int .i64 x, .int .i64 (y : Int)] 45)).alloc (.cells #[.slice (some ⟨w2.heap.size, 0, none⟩) 2 2] 28)
              have b9 := Box.new (w2.alloc (.cells #[.int .i64 0, .int .i64 0, .int .i64 x, .int .i64 (y : Int)] 45)) (.slice (some ⟨w2.heap.size, 0, none⟩) 2 2) 28
              rw [World.size_alloc] at b9
              have hs5 : ((w2.alloc (.cells #[.int .i64 0, .int .i64 0, .int .i64 x, .int .i64 (y : Int)] 45)).alloc (.cells #[.slice (some ⟨w2.heap.size, 0, none⟩) 2 2] 28)).heap.size = w2.heap.size + 1 + 1 := by simp only [World.size_alloc]
              have hs2 := U1.size
              have r0 := FbRel.start ((w2.alloc (.cells #[.int .i64 0, .int .i64 0, .int .i64 x, .int .i64 (y : Int)] 45)).alloc (.cells #[.slice (some ⟨w2.heap.size, 0, none⟩) 2 2] 28))
              rw [hs5, ← restN_zero e (x, (y : Int))] at r0
              have O8 := Lib.hid o8; clear o8
              have Vv := Lib.hid vv; clear vv
              have B9 := Lib.hid b9; clear b9
              have R0 := Lib.hid r0; clear r0
              clear U1 B
              go_wp2
              clear b0 b1 q0 q1
              generalize ((w2.alloc (.cells #[.int .i64 0, .int .i64 0, .int .i64 x, .int .i64 (y : Int)] 45)).alloc (.cells #[.slice (some ⟨w2.heap.size, 0, none⟩) 2 2] 28)) = w5 at *
              obtain ⟨vb, evb⟩ : ∃ vb, wr.heap.size = vb := ⟨_, rfl⟩
              simp only [evb] at B5 ⊢
              clear evb
              go_loopw [11] (fun i wr => ∃ k n g d : Nat, k ≤ e.length ∧ i = .int .i64 k ∧ Hid (n = (restN e (x, (y : Int)) k).length) ∧ FbRel (restN e (x, (y : Int)) k) n (w2.heap.size + 1 + 1) (w2.heap.size + 1 + 1 + 1) w5 wr g d) (fun i _ => e.length - (intOf i).toNat)
              case atStart => exact ⟨0, 0, _, _, Nat.zero_le _, rfl, Lib.hid (by simp [restN_zero]), R0.out⟩
              case round =>
                clear R0
                obtain ⟨k, n, g1, d1, hk, rfl, HN, r⟩ := hrel
                have U2 := Vv.out.bl r.since.below
                have B2 := B5.bl r.since.below
                have hk0 : (0 : Int) ≤ (k : Int) := Int.natCast_nonneg _
                have hnk : n ≤ 50 := by have h1 := HN.out; have := restN_len e (x, (y : Int)) k; omega
                have X2 := X.bl U2.below
                have zx := X2.cell
                by_cases hke : k < e.length
                · have hk1 : (k : Int) < (e.length : Int) := by omega
                  obtain ⟨pb, po, rfl, hpb, hpc⟩ := (D.bl U2.below).at (k := k * 2) (by omega)
                  have a0 := hpc (k * 2) (by omega)
                  have a1 := hpc (k * 2 + 1) (by omega)
                  rw [spotAt_x] at a0
                  rw [spotAt_y, ← Nat.add_assoc] at a1
                  have hsm := Sm.out.at hke
                  have hyes := fun s hs hm => restN_yes (e := e) (v := (x, (y : Int))) (s := s) hke hs hm
                  have hno2 := fun s hs hm => restN_no (e := e) (v := (x, (y : Int))) (s := s) hke hs hm
                  obtain ⟨⟨u, v⟩, eu⟩ : ∃ s, e.getD k (0, 0) = s := ⟨_, rfl⟩
                  rw [eu] at a0 a1 hsm
                  dsimp only at a0 a1 hsm
                  obtain ⟨⟨hu1, hu2⟩, hv1, hv2⟩ := hsm
                  have rq := r.bl (bl_alloc wr (.cells #[.int .i64 u, .int .i64 v] 45))
                  have aq := Blk.new wr #[.int .i64 u, .int .i64 v] 45
                  have bq := B2.alloc (.cells #[.int .i64 u, .int .i64 v] 45)
                  have xq := (X2.alloc (.cells #[.int .i64 u, .int .i64 v] 45)).cell
                  have rq2 := (D.bl U2.below).alloc (.cells #[.int .i64 u, .int .i64 v] 45)
                  have qa0 := aq.cell 0 rfl
                  have qa1 := aq.cell 1 rfl
                  have qb0 := bq.cell 0 rfl
                  have qb1 := bq.cell 1 rfl
                  have hw3 : IntKind.i64.wrap (u + x) = u + x := IntWalk.i64_in _ (by omega)
                  have hw4 : IntKind.i64.wrap (v + (y : Int)) = v + (y : Int) := IntWalk.i64_in _ (by omega)
                  have cc := fun wx h1 h => l03Has_any w.heap.size (some ⟨pb, po, none⟩) c e (u + x) (v + (y : Int)) wx he h1 h
                  have es : addS (u, v) (x, (y : Int)) = (u + x, v + (y : Int)) := rfl
                  by_cases hm : (u + x, v + (y : Int)) ∈ e
                  · simp only [decide_eq_true hm] at cc
                    have hre := hyes _ eu (by rw [es]; exact hm)
                    have Cc := Lib.hid cc; clear cc
                    have Hm := Lib.hid hm; clear hm
                    have Es := Lib.hid es; clear es
                    have Eu := Lib.hid eu; clear eu
                    have Hpc := Lib.hid hpc; clear hpc
                    have Hyes := Lib.hid hyes; clear hyes
                    have Hno2 := Lib.hid hno2; clear hno2
                    have Hre := Lib.hid hre; clear hre
                    have Rq := Lib.hid rq; clear rq
                    clear r U2 B2
                    go_wp2_with fail
                    refine (Cc.out _ xq rq2).mono ?_
                    rintro r w7 ⟨rfl, hb7⟩
                    have r7 := Rq.out.bl hb7
                    have A7 := aq.bl hb7
                    have z0 := A7.cell 0 rfl
                    have z1 := A7.cell 1 rfl
                    have hge2 := r7.hB2
                    have ho := r7.own
                    have bx := r7.box
                    have bx0 := bx.cell
                    have hpu := fun w3 g' cap h1 h2 h3 => r7.push (w3 := w3) (g' := g') (cap := cap) (x := u) (y := v) h1 h2 h3
                    have hne := r7.ne
                    have hbne : some (w2.heap.size + 1 + 1 + 1) ≠ (some g1 : Option Nat) := fun h => hne (Option.some.inj h).symm
                    clear zx a0 a1 A7 qa0 qa1 qb0 qb1 xq rq2 aq bq X2 hb7
                    have R7 := Lib.hid r7; clear r7
                    have Hpu := Lib.hid hpu; clear hpu
                    have Hbne := Lib.hid hbne; clear hbne
                    have Hne := Lib.hid hne; clear hne
                    go_wp2_with (at_builtin; refine wpList_push rfl _ _ 26 rfl (w2.heap.size + 1 + 1) 45 (.agg #[.int .i64 0, .int .i64 0]) 2 16 Try.underlying26 info_spot rfl (by decide) (.slice (some ⟨g1, 0, none⟩) n d1) n _ rfl ho _ 1 rfl rfl (one_spot _ _) (by omega) (by simp [maxLen]; omega) hge2 ?_; intro g' cap w3 hown2 hgr hat hlt2; have b3 := bx.grown hgr Hbne.out; have b30 := b3.cell; have b31 := b3.frozen)
                    have r3 := Hpu.out _ _ _ hown2 hgr hat
                    rw [← Hre.out] at r3
                    have R3 := Lib.hid r3; clear r3
                    clear hown2 hgr hat ho z0 z1 bx bx0 b3
                    go_wp2
                    go_roundw
                    case rel => exact ⟨k + 1, n + 1, g', cap, by omega, by go_num, Lib.hid (by rw [Hre.out, List.length_append, ← HN.out]; rfl), R3.out⟩
                    case measure => simp [intOf]; omega
                  · simp only [decide_eq_false hm] at cc
                    have hre := hno2 _ eu (by rw [es]; exact hm)
                    have Cc := Lib.hid cc; clear cc
                    have Hm := Lib.hid hm; clear hm
                    have Es := Lib.hid es; clear es
                    have Eu := Lib.hid eu; clear eu
                    have Hpc := Lib.hid hpc; clear hpc
                    have Hyes := Lib.hid hyes; clear hyes
                    have Hno2 := Lib.hid hno2; clear hno2
                    have Hre := Lib.hid hre; clear hre
                    have Rq := Lib.hid rq; clear rq
                    clear r U2 B2
                    go_wp2_with fail
                    refine (Cc.out _ xq rq2).mono ?_
                    rintro r w7 ⟨rfl, hb7⟩
                    have r7 := Rq.out.bl hb7
                    clear zx a0 a1 qa0 qa1 qb0 qb1 xq rq2 aq bq X2 hb7
                    have R7 := Lib.hid r7; clear r7
                    go_wp2
                    go_roundw
                    case rel => exact ⟨k + 1, n, g1, d1, by omega, by go_num, Lib.hid (by rw [Hre.out]; exact HN.out), by rw [Hre.out]; exact R7.out⟩
                    case measure => simp [intOf]; omega
                · obtain rfl : k = e.length := by omega
                  have hnl := HN.out
                  rw [restN_all] at r hnl
                  have O9 : OwnSpots (w2.heap.size + 1 + 1) wr (.slice (some ⟨g1, 0, none⟩) (restL e (x, (y : Int))).length d1) (restL e (x, (y : Int))) := ⟨_, _, rfl, by rw [← hnl]; exact r.own⟩
                  have O8w := O8.out.bl r.since.below
                  have hRs := restL_small (x, (y : Int)) Sm.out
                  have hRl := restL_len e (x, (y : Int))
                  have hfT : ∀ b, decide (setL (sumL [(0, 0), (x, (y : Int))] (restL e (x, (y : Int)))) = e) = b → facT e (x, (y : Int)) = b := fun b h => by rw [facT, Hbf.out, h]; rfl
                  obtain ⟨R, eR⟩ : ∃ R, restL e (x, (y : Int)) = R := ⟨_, rfl⟩
                  rw [eR] at r O9 hnl hRs hRl hfT
                  subst hnl
                  obtain ⟨A0, eA0⟩ : ∃ A0, [((0 : Int), (0 : Int)), (x, (y : Int))] = A0 := ⟨_, rfl⟩
                  have hA2 : A0.length = 2 := by rw [← eA0]; rfl
                  have hAs : Small A0 := by
                    rw [← eA0]
                    intro s hs
                    simp only [List.mem_cons, List.not_mem_nil, or_false] at hs
                    rcases hs with rfl | rfl
                    · dsimp only; omega
                    · dsimp only; omega
                  have ra8 : Rd wr (some ⟨w2.heap.size, 0, none⟩) (A0.length * 2) (spotAt A0) := by have h := O8w.rd; rw [eA0] at h; exact h
                  have ra9 : Rd wr (some ⟨g1, 0, none⟩) (R.length * 2) (spotAt R) := O9.rd
                  rw [eA0] at O8w hfT
                  have b9w := B9.out.bl r.since.below
                  have bxw := r.box
                  have cs := l03Sum_any (w2.heap.size + 1) (w2.heap.size + 1 + 1 + 1) (some ⟨w2.heap.size, 0, none⟩) 2 A0 (some ⟨g1, 0, none⟩) d1 R wr (by omega) (by omega) hAs hRs (by rw [hA2]; exact b9w.cell) bxw.cell ra8 ra9
                  have hsl := setL_len (sumL A0 R)
                  rw [sumL_len, hA2] at hsl
                  have hml : (setL (sumL A0 R)).length ≤ 1048576 := by omega
                  obtain ⟨M, eM⟩ : ∃ M, setL (sumL A0 R) = M := ⟨_, rfl⟩
                  rw [eM] at cs hml hfT
                  have rq2 := D.bl U2.below
                  have ce := fun xb g f wx h1 h2 h3 h4 => l03Same_any xb w.heap.size (some ⟨g, 0, none⟩) p f c M e wx hml he h1 h2 h3 h4
                  have hrs := r.since
                  have hrl := r.hB2
                  by_cases hM : M = e
                  · simp only [decide_eq_true hM] at ce
                    have hT := hfT true (decide_eq_true hM)
                    obtain ⟨k1, k2, k3⟩ := fac_some (Hfr.out.trans (facN_hit Hno.out Hv.out hT (by omega)))
                    rw [eA0] at k2
                    rw [eR] at k3
                    have Cs := Lib.hid cs; clear cs
                    have Ce := Lib.hid ce; clear ce
                    have HM := Lib.hid hM; clear hM
                    have HT := Lib.hid hT; clear hT
                    have K1 := Lib.hid k1; clear k1
                    have K2 := Lib.hid k2; clear k2
                    have K3 := Lib.hid k3; clear k3
                    have EM := Lib.hid eM; clear eM
                    have HA2 := Lib.hid hA2; clear hA2
                    have EA0 := Lib.hid eA0; clear eA0
                    have ER := Lib.hid eR; clear eR
                    have HAs := Lib.hid hAs; clear hAs
                    have HRs := Lib.hid hRs; clear hRs
                    have HfT := Lib.hid hfT; clear hfT
                    clear r B2 ra8 ra9
                    go_wp2_with fail
                    refine Cs.out.mono ?_
                    rintro r w6 ⟨gM, fM, rfl, OM, hb6⟩
                    have bM := Box.new w6 (.slice (some ⟨gM, 0, none⟩) M.length fM) 28
                    have rM := (OM.bl (bl_alloc w6 (.cells #[.slice (some ⟨gM, 0, none⟩) M.length fM] 28))).rd
                    have x6 := (X2.bl hb6).alloc (.cells #[.slice (some ⟨gM, 0, none⟩) M.length fM] 28)
                    have d6 := (rq2.bl hb6).alloc (.cells #[.slice (some ⟨gM, 0, none⟩) M.length fM] 28)
                    go_wp2_with fail
                    refine (Ce.out _ gM fM _ bM.cell x6.cell rM d6).mono ?_
                    rintro r w7 ⟨rfl, hb7⟩
                    have U9' := ((U2.bl hb6).alloc (.cells #[.slice (some ⟨gM, 0, none⟩) M.length fM] 28)).bl hb7
                    have U9 := U9'
                    have O8z := (((O8w.bl hb6).bl (bl_alloc w6 (.cells #[.slice (some ⟨gM, 0, none⟩) M.length fM] 28))).bl hb7)
                    have O9z := (((O9.bl hb6).bl (bl_alloc w6 (.cells #[.slice (some ⟨gM, 0, none⟩) M.length fM] 28))).bl hb7)
                    have b9z := (((b9w.bl hb6).alloc (.cells #[.slice (some ⟨gM, 0, none⟩) M.length fM] 28)).bl hb7)
                    have bxz := (((bxw.bl hb6).alloc (.cells #[.slice (some ⟨gM, 0, none⟩) M.length fM] 28)).bl hb7)
                    clear hb6 hb7 bM rM x6 d6 OM b9w bxw O8w O9 rq2 X2 U2 zx
                    have Y1 := (Y.bl U9.below)
                    have Z1 := (Z.bl U9.below)
                    have f0 := Y1.frozen
                    have f1 := Y1.cell
                    have g00 := Z1.frozen
                    have g10 := Z1.cell
                    have qb9 : CellAt w7 (w2.heap.size + 1) 0 (.slice (some ⟨w2.heap.size, 0, none⟩) 2 2) := b9z.cell
                    have qbx : CellAt w7 (w2.heap.size + 1 + 1 + 1) 0 (.slice (some ⟨g1, 0, none⟩) R.length d1) := bxz.cell
                    have zb9 := qb9.out
                    have zbx := qbx.out
                    have g9h : w2.heap.size + 1 + 1 ≤ g1 := (O9z.ge g1 rfl).1
                    have s5a : Below w.heap.size w ((w7.setCell ⟨w.heap.size + 1, 0, none⟩ (.slice (some ⟨w2.heap.size, 0, none⟩) 2 2)).setCell ⟨w.heap.size + 1 + 1, 0, none⟩ (.slice (some ⟨g1, 0, none⟩) R.length d1)).drew := (((S.bl U9.below).below.setCell (by simp; try omega) _).setCell (by simp; try omega) _).drew
                    have e0a := (((Y1.set (.slice (some ⟨w2.heap.size, 0, none⟩) 2 2)).other (a := ⟨w.heap.size + 1 + 1, 0, none⟩) (by simp) (.slice (some ⟨g1, 0, none⟩) R.length d1)).bl (bl_drew _)).cell
                    have e1a := (((Z1.other (a := ⟨w.heap.size + 1, 0, none⟩) (by simp) (.slice (some ⟨w2.heap.size, 0, none⟩) 2 2)).set (.slice (some ⟨g1, 0, none⟩) R.length d1)).bl (bl_drew _)).cell
                    have o8a : OwnSpots w.heap.size ((w7.setCell ⟨w.heap.size + 1, 0, none⟩ (.slice (some ⟨w2.heap.size, 0, none⟩) 2 2)).setCell ⟨w.heap.size + 1 + 1, 0, none⟩ (.slice (some ⟨g1, 0, none⟩) R.length d1)).drew (.slice (some ⟨w2.heap.size, 0, none⟩) 2 2) A0 := by
                      obtain ⟨p', c', hv, ho⟩ := O8z
                      exact ⟨p', c', hv, own_mono (own_below (own_other (own_other ho (by simp [Value.ownBlock]; omega) _) (by simp [Value.ownBlock]; omega) _) (bl_drew _) (Nat.le_refl _)) (by omega)⟩
                    have o9a : OwnSpots w.heap.size ((w7.setCell ⟨w.heap.size + 1, 0, none⟩ (.slice (some ⟨w2.heap.size, 0, none⟩) 2 2)).setCell ⟨w.heap.size + 1 + 1, 0, none⟩ (.slice (some ⟨g1, 0, none⟩) R.length d1)).drew (.slice (some ⟨g1, 0, none⟩) R.length d1) R := by
                      obtain ⟨p', c', hv, ho⟩ := O9z
                      exact ⟨p', c', hv, own_mono (own_below (own_other (own_other ho (by simp [Value.ownBlock]; omega) _) (by simp [Value.ownBlock]; omega) _) (bl_drew _) (Nat.le_refl _)) (by omega)⟩
                    have s5b : Below w.heap.size w ((w7.setCell ⟨w.heap.size + 1 + 1, 0, none⟩ (.slice (some ⟨g1, 0, none⟩) R.length d1)).setCell ⟨w.heap.size + 1, 0, none⟩ (.slice (some ⟨w2.heap.size, 0, none⟩) 2 2)).drew := (((S.bl U9.below).below.setCell (by simp; try omega) _).setCell (by simp; try omega) _).drew
                    have e0b := (((Y1.other (a := ⟨w.heap.size + 1 + 1, 0, none⟩) (by simp) (.slice (some ⟨g1, 0, none⟩) R.length d1)).set (.slice (some ⟨w2.heap.size, 0, none⟩) 2 2)).bl (bl_drew _)).cell
                    have e1b := (((Z1.set (.slice (some ⟨g1, 0, none⟩) R.length d1)).other (a := ⟨w.heap.size + 1, 0, none⟩) (by simp) (.slice (some ⟨w2.heap.size, 0, none⟩) 2 2)).bl (bl_drew _)).cell
                    have o8b : OwnSpots w.heap.size ((w7.setCell ⟨w.heap.size + 1 + 1, 0, none⟩ (.slice (some ⟨g1, 0, none⟩) R.length d1)).setCell ⟨w.heap.size + 1, 0, none⟩ (.slice (some ⟨w2.heap.size, 0, none⟩) 2 2)).drew (.slice (some ⟨w2.heap.size, 0, none⟩) 2 2) A0 := by
                      obtain ⟨p', c', hv, ho⟩ := O8z
                      exact ⟨p', c', hv, own_mono (own_below (own_other (own_other ho (by simp [Value.ownBlock]; omega) _) (by simp [Value.ownBlock]; omega) _) (bl_drew _) (Nat.le_refl _)) (by omega)⟩
                    have o9b : OwnSpots w.heap.size ((w7.setCell ⟨w.heap.size + 1 + 1, 0, none⟩ (.slice (some ⟨g1, 0, none⟩) R.length d1)).setCell ⟨w.heap.size + 1, 0, none⟩ (.slice (some ⟨w2.heap.size, 0, none⟩) 2 2)).drew (.slice (some ⟨g1, 0, none⟩) R.length d1) R := by
                      obtain ⟨p', c', hv, ho⟩ := O9z
                      exact ⟨p', c', hv, own_mono (own_below (own_other (own_other ho (by simp [Value.ownBlock]; omega) _) (by simp [Value.ownBlock]; omega) _) (bl_drew _) (Nat.le_refl _)) (by omega)⟩
                    have S5a := Lib.hid s5a; clear s5a
                    have S5b := Lib.hid s5b; clear s5b
                    have O8a := Lib.hid o8a; clear o8a
                    have O8b := Lib.hid o8b; clear o8b
                    have O9a := Lib.hid o9a; clear o9a
                    have O9b := Lib.hid o9b; clear o9b
                    have E0a := Lib.hid e0a; clear e0a
                    have E0b := Lib.hid e0b; clear e0b
                    have E1a := Lib.hid e1a; clear e1a
                    have E1b := Lib.hid e1b; clear e1b
                    clear O8z O9z Y1 Z1 U9
                    go_upto_region 22 with (fail)
                    go_region
                    all_goals
                      go_wp2
                      have e0a := E0a.out
                      have e0b := E0b.out
                      have e1a := E1a.out
                      have e1b := E1b.out
                      exact bodyPost_ret (v := .tuple #[.agg #[(.slice (some ⟨w2.heap.size, 0, none⟩) 2 2)], .agg #[(.slice (some ⟨g1, 0, none⟩) R.length d1)], .bool true]) (by simp [results, Try.results11, go_sem, e0a, e0b, e1a, e1b]) rfl ⟨(.slice (some ⟨w2.heap.size, 0, none⟩) 2 2), (.slice (some ⟨g1, 0, none⟩) R.length d1), by rw [K1.out], by rw [K2.out]; first | exact O8a.out | exact O8b.out, by rw [K3.out]; first | exact O9a.out | exact O9b.out, by first | exact S5a.out | exact S5b.out, fun k h1 h2 => by
                        have h3 : w2.heap.size = k := Option.some.inj h1
                        have h4 : g1 = k := Option.some.inj h2
                        omega⟩
                  · simp only [decide_eq_false hM] at ce
                    have hT := hfT false (decide_eq_false hM)
                    have hmi := facN_miss Hno.out Hv.out hT
                    have Cs := Lib.hid cs; clear cs
                    have Ce := Lib.hid ce; clear ce
                    have HM := Lib.hid hM; clear hM
                    have HT := Lib.hid hT; clear hT
                    have EM := Lib.hid eM; clear eM
                    have HA2 := Lib.hid hA2; clear hA2
                    have EA0 := Lib.hid eA0; clear eA0
                    have ER := Lib.hid eR; clear eR
                    have HAs := Lib.hid hAs; clear hAs
                    have HRs := Lib.hid hRs; clear hRs
                    have HfT := Lib.hid hfT; clear hfT
                    have Hmi := Lib.hid hmi; clear hmi
                    clear r B2 ra8 ra9
                    go_wp2_with fail
                    refine Cs.out.mono ?_
                    rintro r w6 ⟨gM, fM, rfl, OM, hb6⟩
                    have bM := Box.new w6 (.slice (some ⟨gM, 0, none⟩) M.length fM) 28
                    have rM := (OM.bl (bl_alloc w6 (.cells #[.slice (some ⟨gM, 0, none⟩) M.length fM] 28))).rd
                    have x6 := (X2.bl hb6).alloc (.cells #[.slice (some ⟨gM, 0, none⟩) M.length fM] 28)
                    have d6 := (rq2.bl hb6).alloc (.cells #[.slice (some ⟨gM, 0, none⟩) M.length fM] 28)
                    go_wp2_with fail
                    refine (Ce.out _ gM fM _ bM.cell x6.cell rM d6).mono ?_
                    rintro r w7 ⟨rfl, hb7⟩
                    have U9' := ((U2.bl hb6).alloc (.cells #[.slice (some ⟨gM, 0, none⟩) M.length fM] 28)).bl hb7
                    have U9 := U9'
                    have O8z := (((O8w.bl hb6).bl (bl_alloc w6 (.cells #[.slice (some ⟨gM, 0, none⟩) M.length fM] 28))).bl hb7)
                    have O9z := (((O9.bl hb6).bl (bl_alloc w6 (.cells #[.slice (some ⟨gM, 0, none⟩) M.length fM] 28))).bl hb7)
                    have b9z := (((b9w.bl hb6).alloc (.cells #[.slice (some ⟨gM, 0, none⟩) M.length fM] 28)).bl hb7)
                    have bxz := (((bxw.bl hb6).alloc (.cells #[.slice (some ⟨gM, 0, none⟩) M.length fM] 28)).bl hb7)
                    clear hb6 hb7 bM rM x6 d6 OM b9w bxw O8w O9 rq2 X2 U2 zx
                    clear O8z O9z b9z bxz
                    go_wp2
                    go_roundw
                    case rel => exact ⟨i + 1, x + 1, by omega, rfl, by omega, Hmi.out, U9'⟩
                    case measure => simp [intOf]; omega
          · obtain rfl : i = 9 := by omega
            have hno9 : facN e (9 * (y + 1)) = none := by rw [show 9 * (y + 1) = 9 * y + 9 by omega]; exact hno
            have h5 : ¬ x ≤ 4 := by omega
            have Hno9 := Lib.hid hno9; clear hno9
            have Hno := Lib.hid hno; clear hno
            clear hx
            go_wp2
            go_roundw
            case rel => exact ⟨y + 1, by omega, by go_num, Hno9.out, U⟩
            case measure => simp [intOf]; omega
      · obtain rfl : y = 5 := by omega
        obtain ⟨k1, k2, k3⟩ := fac_none (Hfr.out.trans hno)
        have Y1 := Y.bl U.below
        have Z1 := Z.bl U.below
        have f0 := Y1.frozen
        have f1 := Y1.cell
        have g0 := Z1.frozen
        have g1 := Z1.cell
        have e0 := ((Y1.set (.slice none 0 0)).other (a := ⟨w.heap.size + 1 + 1, 0, none⟩) (by simp) (.slice none 0 0)).cell
        have e1 := ((Z1.other (a := ⟨w.heap.size + 1, 0, none⟩) (by simp) (.slice none 0 0)).set (.slice none 0 0)).cell
        have s5 : Below w.heap.size w ((wr.setCell ⟨w.heap.size + 1, 0, none⟩ (.slice none 0 0)).setCell ⟨w.heap.size + 1 + 1, 0, none⟩ (.slice none 0 0)) := ((S.bl U.below).below.setCell (by simp; try omega) _).setCell (by simp; try omega) _
        have S5 := Lib.hid s5; clear s5
        have Hno := Lib.hid hno; clear hno
        have K1 := Lib.hid k1; clear k1
        have K2 := Lib.hid k2; clear k2
        have K3 := Lib.hid k3; clear k3
        clear S Y1 Z1 X Y Z D U
        go_wp2
        exact bodyPost_ret (v := .tuple #[.agg #[.slice none 0 0], .agg #[.slice none 0 0], .bool false]) (by simp [results, Try.results11, go_sem, e0, e1]) rfl ⟨.slice none 0 0, .slice none 0 0, by rw [K1.out], by rw [K2.out]; exact OwnSpots.nil _ _, by rw [K3.out]; exact OwnSpots.nil _ _, S5.out, fun k h => by cases h⟩
end Go.Proofs.Ytheakjbbfdcbaaa
