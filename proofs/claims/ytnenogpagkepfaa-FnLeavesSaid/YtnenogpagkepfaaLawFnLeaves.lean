/- The law FnLeaves: for every input the call returns true, and the inputs read as they did. -/
import Derived.Test.YtnenogpagkepfaaLeafN
import Derived.Test.YtnenogpagkepfaaLeafR8
import Derived.Test.YtnenogpagkepfaaTreeI6
import Derived.Test.YtnenogpagkepfaaTreeI7
import Derived.Test.YtnenogpagkepfaaTreeLv
import Derived.Test.YtnenogpagkepfaaTreeTc2
import Derived.Test.YtnenogpagkepfaaTreeTo
import Derived.Test.YtnenogpagkepfaaOpenB
set_option linter.unusedVariables false
set_option linter.unusedSimpArgs false
namespace Go.Proofs.Ytnenogpagkepfaa.lawFnLeaves
open Go.RowKit Go.Proofs.Ytnenogpagkepfaa

/-- The head of the outer loop over a leaf's border. -/
def JRel (l : List QLeaf) (r : QLeaf) (w1 : World) (v : Value) (wr : World) : Prop :=
  ∃ (d : Nat) (j : Int) (F : Nat → Bool), d ≤ r.side + 2 ∧ v = .int .i64 j ∧ j = (r.y : Int) - 1 + d ∧ FRel l r j ((r.x : Int) - 1) F ∧ Bools wr w1.heap.size l.length F ∧ Since w1 wr
def IRel (l : List QLeaf) (r : QLeaf) (w1 : World) (j : Int) (v : Value) (wr : World) : Prop :=
  ∃ (d : Nat) (i : Int) (F : Nat → Bool), d ≤ r.side + 2 ∧ v = .int .i64 i ∧ i = (r.x : Int) - 1 + d ∧ FRel l r j i F ∧ Bools wr w1.heap.size l.length F ∧ Since w1 wr
theorem leafRow_at {l : List QLeaf} {k : Nat} (h : k < l.length) : (l.map leafRow).getD k [] = leafRow (l.getD k noLeaf) := by
  simp [List.getD, List.getElem?_map, List.getElem?_eq_getElem h]
set_option maxRecDepth 100000 in
set_option maxHeartbeats 16000000 in
theorem walk (p : Option Addr) (c : Nat) (l : List Int) (q : Option Addr) (d : Nat) (m : List Int) (w : World) (hl : l.length ≤ maxLen) (hb1 : ∀ x ∈ l, 0 ≤ x ∧ x ≤ 255) (hr1 : Rd w p l.length (byteAt l)) (hm : m.length ≤ maxLen) (hb2 : ∀ x ∈ m, 0 ≤ x ∧ x ≤ 255) (hr2 : Rd w q m.length (byteAt m)) :
    Calls Try.prog 10 #[.slice p l.length c, .slice q m.length d] w fun e w' => e = .returned (.bool true) ∧ Below w.heap.size w w' := by
  have cl := r8Long_any p q c d l.length m.length w
  cases hlong : (decide (48 < l.length) || decide (48 < m.length))
  · rw [hlong] at cl
    simp only [Bool.or_eq_false_iff, decide_eq_false_iff_not] at hlong
    obtain ⟨hl1, hl2⟩ := hlong
    have c1 := r8Square_any p c l w hr1 hb1 (by omega)
    clear hr1 hl hm
    have Cl := Lib.hid cl; clear cl
    have C1 := Lib.hid c1; clear c1
    have Hb1 := Lib.hid hb1; clear hb1
    have Hb2 := Lib.hid hb2; clear hb2
    go_enter Try.func10, Try.ntmps10
    go_wp2_with fail
    with_reducible (refine Cl.out.mono ?_)
    rintro e w1 ⟨rfl, rfl⟩
    go_wp2_with fail
    with_reducible (refine C1.out.mono ?_)
    rintro e w1 ⟨p1, k1, k, N, f, hk, hkN, rfl, P, hb⟩
    have T := (Since.refl w).bl hb
    replace hr2 := hr2.bl hb
    obtain ⟨hto, htn, hts, htv, hlg, hN1, hN2⟩ := sq_tree' hk hkN f
    have hrl := render_len N N f
    have hrs : ∀ s ∈ render N N f, s.size ≤ 1048576 := fun s hs => by
      obtain ⟨y, _, rfl⟩ := List.mem_map.1 hs
      rw [rowStr_size]
      omega
    have ct := fun w h => iTreeOf_any p1 k1 (render N N f) w (by omega) hrs h
    rw [htn, hto, hrl] at ct
    obtain ⟨s, es⟩ : ∃ s, toS (render N N f) = s := ⟨_, rfl⟩
    simp only [es] at ct hts htv
    have hsm : s.size ≤ maxLen := by unfold maxLen; omega
    have lok := treeLv_ok htv
    have hpart := lf_part htv
    rw [hlg] at hpart
    have hadr := lf_adr htv
    rw [hlg] at hadr
    have clv := fun w => leavesOfI_any (N : Int) s w hsm
    have hlv := lvL_yes htv
    have ctl := fun k w h0 h1 => iTouching_any (N : Int) s k w hsm h0 h1
    have cad := fun k w h0 h1 => addressOf_any (N : Int) s k w hsm h0 h1
    have cla := fun x y w => leafAt_any (N : Int) s x y w hsm
    have htold := fun x y => leaf_told htv hlg x y
    have hao := fun k h => ao_yes (n := (N : Int)) (s := s) (k := k) htv h
    have htl := fun k h => tl_yes (n := (N : Int)) (s := s) (k := k) h
    have haS : ∀ k, aoOk (N : Int) s k = true → aoS (N : Int) s k = ((treeLv (N : Int) s).getD k.toNat noLeaf).addr := fun k h => by rw [aoS, h]; rfl
    simp only [htv, hlv] at clv
    obtain ⟨L, eL⟩ : ∃ L, treeLv (N : Int) s = L := ⟨_, rfl⟩
    simp only [eL] at lok hpart hadr clv htold hao htl haS
    have hl0 := lok.pos
    have hl256 := lok.len
    have Htv := Lib.hid htv; clear htv
    have Hlg := Lib.hid hlg; clear hlg
    have Lok := Lib.hid lok; clear lok
    have Hpart := Lib.hid hpart; clear hpart
    have Hadr := Lib.hid hadr; clear hadr
    have Clv := Lib.hid clv; clear clv
    have Hlv := Lib.hid hlv; clear hlv
    have Ctl := Lib.hid ctl; clear ctl
    have Cad := Lib.hid cad; clear cad
    have Cla := Lib.hid cla; clear cla
    have Htold := Lib.hid htold; clear htold
    have Hao := Lib.hid hao; clear hao
    have Htl := Lib.hid htl; clear htl
    have HaS := Lib.hid haS; clear haS
    have EL := Lib.hid eL; clear eL
    have Ct := Lib.hid ct; clear ct
    have Hto := Lib.hid hto; clear hto
    have Htn := Lib.hid htn; clear htn
    have Hrs := Lib.hid hrs; clear hrs
    have Es := Lib.hid es; clear es
    have HkN := Lib.hid hkN; clear hkN
    have Hk := Lib.hid hk; clear hk
    have Hrl := Lib.hid hrl; clear hrl
    have hy := bl_alloc w1 (.cells #[.slice p1 N k1] 38)
    have A := Box.new w1 (.slice p1 N k1) 38
    replace T := T.bl hy
    replace P := P.bl hy
    replace hr2 := hr2.bl hy
    clear hb hy Cl C1
    have x5 := A.cell
    have hN0 : (0 : Int) ≤ (N : Int) := by omega
    go_wp2_with fail
    with_reducible (refine (Ct.out _ P).mono ?_)
    rintro e w2 ⟨rfl, hb⟩
    replace T := T.bl hb
    replace hr2 := hr2.bl hb
    clear hb x5 A P Ct
    have hy := bl_alloc w2 (.cells #[.int .i64 (N : Int), .string s] 26)
    have B7 := Blk.new w2 #[.int .i64 (N : Int), .string s] 26
    replace T := T.bl hy
    replace hr2 := hr2.bl hy
    clear hy
    have x0 := B7.cell 0 rfl
    have x1 := B7.cell 1 rfl
    go_wp2_with fail
    with_reducible (refine (Clv.out _).mono ?_)
    rintro e w3 ⟨v, rfl, O, hb⟩
    replace T := T.bl hb
    replace hr2 := hr2.bl hb
    replace B7 := B7.bl hb
    obtain ⟨gp, gc, rfl⟩ := (show ∃ p c, v = .slice p (L.map leafRow).length c from by obtain ⟨vs, O3⟩ := O; exact O3.form)
    have G : RdSS w3 gp (L.map leafRow) := by obtain ⟨vs, O3⟩ := O; exact O3.rds
    rw [List.length_map]
    clear hb x0 x1 O Clv
    have hlz : ((L.length : Int) == 0) = false := by rw [beq_eq_false_iff_ne]; omega
    have car := r8At1_any q d m 0 L.length 0 (L.length : Int) w3 rfl rfl (by omega) (by omega) (by omega) (by omega) hr2 Hb2.out
    have Car := Lib.hid car; clear car
    go_wp2_with fail
    with_reducible (refine Car.out.mono ?_)
    rintro e w4 ⟨a, ha, rfl, rfl⟩
    clear Car hr2
    have hao1 : aoOk (N : Int) s (a : Int) = true := Hao.out _ (by simp only [inB, Bool.and_eq_true, decide_eq_true_eq]; omega)
    have htl1 := Htl.out _ hao1
    have haS1 := HaS.out _ hao1
    rw [Int.toNat_natCast] at htl1 haS1
    have hbd := Lok.out.bd a ha
    have hadr1 := Hadr.out _ (getD_memQ ha)
    have hrow := leafRow_at ha
    have ctl1 := fun w => Ctl.out (a : Int) w (by omega) (by omega)
    have cad1 := fun w => Cad.out (a : Int) w (by omega) (by omega)
    rw [haS1, hao1] at cad1
    rw [htl1, hao1] at ctl1
    obtain ⟨r, er⟩ : ∃ r, L.getD a noLeaf = r := ⟨_, rfl⟩
    simp only [er] at hbd hadr1 hrow ctl1 cad1
    obtain ⟨hbd1, hbd2, hbd3, hbd4⟩ := hbd
    obtain ⟨TT, eTT⟩ : ∃ TT, touchN L r L.length = TT := ⟨_, rfl⟩
    simp only [eTT] at ctl1
    have hTT := touchN_len L r L.length
    rw [eTT] at hTT
    obtain ⟨ad, ead⟩ : ∃ ad, r.addr = ad := ⟨_, rfl⟩
    simp only [ead] at cad1 hadr1 hbd4
    have ha0 : (0 : Int) ≤ (a : Int) := Int.natCast_nonneg _
    have ha1 : (a : Int) < (L.length : Int) := by omega
    have Hao1 := Lib.hid hao1; clear hao1
    have Htl1 := Lib.hid htl1; clear htl1
    have HaS1 := Lib.hid haS1; clear haS1
    have Hadr1 := Lib.hid hadr1; clear hadr1
    have Hrow := Lib.hid hrow; clear hrow
    have Ctl1 := Lib.hid ctl1; clear ctl1
    have Cad1 := Lib.hid cad1; clear cad1
    have Er := Lib.hid er; clear er
    have ETT := Lib.hid eTT; clear eTT
    have Ead := Lib.hid ead; clear ead
    have x0 := B7.cell 0 rfl
    have x1 := B7.cell 1 rfl
    go_wp2_with fail
    with_reducible (refine (Ctl1.out _).mono ?_)
    rintro e w4 ⟨v, rfl, O, hb⟩
    replace T := T.bl hb
    replace B7 := B7.bl hb
    replace G := G.bl hb
    obtain ⟨tp, tc, rfl⟩ := O.form
    have TR := O.rd
    clear hb x0 x1 O Ctl1 Ctl
    have x0 := B7.cell 0 rfl
    have x1 := B7.cell 1 rfl
    go_wp2_with fail
    with_reducible (refine (Cad1.out _).mono ?_)
    rintro e w5 ⟨rfl, hb⟩
    replace T := T.bl hb
    replace B7 := B7.bl hb
    replace G := G.bl hb
    replace TR := TR.bl hb
    clear hb x0 x1 Cad1 Cad
    have G1 := G
    obtain ⟨vs, gr, gi⟩ := G1
    obtain ⟨gb, go, rfl, hgb, gc1⟩ := gr.at (k := a) (by rw [List.length_map]; exact ha)
    obtain ⟨q2, d2, e2, rr⟩ := gi a (by rw [List.length_map]; exact ha)
    have g0 := gc1 a (by rw [List.length_map]; exact ha)
    rw [e2, Hrow.out] at g0
    rw [Hrow.out] at rr
    have hl4 : (leafRow r).length = 4 := rfl
    rw [hl4] at g0 rr
    obtain ⟨qb, qo, rfl, hqb, qc⟩ := rr.at (k := 0) (by omega)
    have g1 := qc 0 (by omega)
    have g2 := qc 1 (by omega)
    have g3 := qc 2 (by omega)
    rw [intAt, show (leafRow r).getD 0 0 = (r.x : Int) from rfl, Nat.add_zero] at g1
    rw [intAt, show (leafRow r).getD 1 0 = (r.y : Int) from rfl] at g2
    rw [intAt, show (leafRow r).getD 2 0 = (r.side : Int) from rfl] at g3
    have Gc1 := Lib.hid gc1; clear gc1
    have Gi := Lib.hid gi; clear gi
    have E2 := Lib.hid e2; clear e2
    have Gr := Lib.hid gr; clear gr
    have Qc := Lib.hid qc; clear qc
    have Hl4 := Lib.hid hl4; clear hl4
    clear rr
    have hst0 : ad.size ≤ 4 := hbd4
    go_wp2
    go_loop [16, 17, 18, 19] (fun x y z i => ∃ j : Nat, j ≤ ad.size ∧ i = .int .i64 j ∧ x = .int .i64 ((adrN N ad j).1 : Nat) ∧ y = .int .i64 ((adrN N ad j).2.1 : Nat) ∧ z = .int .i64 ((adrN N ad j).2.2 : Nat)) (fun _ _ _ i => ad.size - (intOf i).toNat)
    case atStart => exact ⟨0, Nat.zero_le _, rfl, rfl, rfl, rfl⟩
    case round =>
      obtain ⟨j, hj, rfl, rfl, rfl, rfl⟩ := hrel
      by_cases hlt : j < ad.size
      · as_aux_lemma =>
        have hsu := adrN_succ N hlt
        have hbd5 := adrN_bd N j hj
        generalize adrN N ad j = t at *
        obtain ⟨tx, ty, tz⟩ := t
        dsimp only at hbd5 ⊢
        obtain ⟨hbd6, hbd7⟩ := hbd5
        have hj0 : (0 : Int) ≤ (j : Int) := Int.natCast_nonneg _
        have hj1 : (j : Int) < (ad.size : Int) := by omega
        clear g0 g1 g2 g3 B7 T G TR
        have Hsu := Lib.hid hsu; clear hsu
        have hcs : (ad[j].toNat : Int) = 49 ∨ (ad[j].toNat : Int) = 51 ∨ (ad[j].toNat : Int) = 50 ∨ (¬ (ad[j].toNat : Int) = 49 ∧ ¬ (ad[j].toNat : Int) = 51 ∧ ¬ (ad[j].toNat : Int) = 50 ∧ ((ad[j].toNat : Int) == 49) = false ∧ ((ad[j].toNat : Int) == 51) = false ∧ ((ad[j].toNat : Int) == 50) = false) := by
          simp only [beq_eq_false_iff_ne, ne_eq]
          omega
        rcases hcs with h1 | h1 | h1 | ⟨h1, h2, h3, h4, h5, h6⟩
        all_goals as_aux_lemma =>
          go_wp2
          go_round
          case rel =>
            have hx := adrS_x (tx, ty, tz) ad[j]
            have hy := adrS_y (tx, ty, tz) ad[j]
            have hz := adrS_z (tx, ty, tz) ad[j]
            rw [← Hsu.out] at hx hy hz
            dsimp only at hx hy hz
            refine ⟨j + 1, by omega, by go_num, val_int ?_, val_int ?_, val_int ?_⟩
            · rw [hx]; split <;> omega
            · rw [hy]; split <;> omega
            · rw [hz]
          case measure => simp [intOf]; omega
      · as_aux_lemma =>
        obtain rfl : j = ad.size := by omega
        have hend : adrN N ad ad.size = (r.x, r.y, r.side) := by rw [adrN_all]; exact Hadr1.out
        rw [hend]
        dsimp only
        have hmk := run_make_row' (P := Try.prog) 62 4 (.bool false) 1 Try.underlying62 info_bool' rfl .i64 .i64 L.length (by omega) (by omega)
        have fs0 := frel_start L r
        have hrx : (0 : Int) ≤ (r.x : Int) := Int.natCast_nonneg _
        have hry : (0 : Int) ≤ (r.y : Int) := Int.natCast_nonneg _
        have hrs1 : (1 : Int) ≤ (r.side : Int) := by omega
        have Hend := Lib.hid hend; clear hend
        have Fs0 := Lib.hid fs0; clear fs0
        clear hj hlt
        go_wp2
        clear g0 g1 g2 g3
        have N0 := World.rowIs_made w5 (.bool false) L.length 4
        have jj0 : JRel L r w5 (.int .i64 ((r.y : Int) - 1)) (w5.alloc (.cells (madeCells #[.bool false] L.length) 4)) := ⟨0, _, fun _ => false, by omega, rfl, by omega, Fs0.out, ⟨_, _, Nat.le_refl _, N0, fun i hi => rfl⟩, (Since.refl w5).alloc _⟩
        have Jj0 := Lib.hid jj0; clear jj0
        go_loopw [21] (fun v wr => JRel L r w5 v wr) (fun v _ => ((r.y : Int) + r.side + 1 - intOf v).toNat)
        case atStart => exact Jj0.out
        case round =>
          clear Jj0
          obtain ⟨dj, j, F, hdj, rfl, hj, fr, bo, U⟩ := hrel
          have hja : j ≤ (r.y : Int) - 1 + dj := by omega
          have hjb : (r.y : Int) - 1 + dj ≤ j := by omega
          clear hj
          by_cases hje : dj < r.side + 2
          · as_aux_lemma =>
            have h1 : j ≤ (r.y : Int) + r.side := by omega
            have i0 : IRel L r w5 j (.int .i64 ((r.x : Int) - 1)) wr := ⟨0, _, F, by omega, rfl, by omega, fr, bo, U⟩
            have I0 := Lib.hid i0; clear i0
            clear fr bo U
            go_wp2
            go_loopw [22] (fun v wr => IRel L r w5 j v wr) (fun v _ => ((r.x : Int) + r.side + 1 - intOf v).toNat)
            case atStart => exact I0.out
            case round =>
              clear I0
              obtain ⟨di, i, F, hdi, rfl, hi, fr, bo, U⟩ := hrel
              have hia : i ≤ (r.x : Int) - 1 + di := by omega
              have hib : (r.x : Int) - 1 + di ≤ i := by omega
              clear hi
              by_cases hie : di < r.side + 2
              · as_aux_lemma =>
                have h2 : i ≤ (r.x : Int) + r.side := by omega
                have P7 := B7.bl U.below
                have x0 := P7.cell 0 rfl
                have x1 := P7.cell 1 rfl
                have hyo : ((r.y : Int) ≤ j ∧ j < r.y + r.side) ∨ j < r.y ∨ ((r.y : Int) ≤ j ∧ ¬ j < r.y + r.side) := by omega
                have hxo : ((r.x : Int) ≤ i ∧ i < r.x + r.side) ∨ i < r.x ∨ ((r.x : Int) ≤ i ∧ ¬ i < r.x + r.side) := by omega
                have ix1 : -1 ≤ i := by omega
                have ix2 : i ≤ 16 := by omega
                have jy1 : -1 ≤ j := by omega
                have jy2 : j ≤ 16 := by omega
                go_upto_region 34 with (fail)
                go_cut [23] (fun s23 wx => ∃ bx : Bool, s23 = .bool bx ∧ Hid (bx = true ↔ BX r i) ∧ wx = wr)
                case first =>
                  rcases hxo with ⟨h3, h4⟩ | h3 | ⟨h3, h4⟩
                  all_goals
                    go_wp2_with fail
                    go_meet
                    exact ⟨_, rfl, Lib.hid (by as_aux_lemma => unfold BX; simp; try omega), rfl⟩
                case rest =>
                obtain ⟨bx, rfl, HX, rfl⟩ := hcut
                go_upto_region 35 with (fail)
                go_cut [24] (fun s24 wx => ∃ bY : Bool, s24 = .bool bY ∧ Hid (bY = true ↔ BY r j) ∧ wx = wc)
                case first =>
                  rcases hyo with ⟨h3, h4⟩ | h3 | ⟨h3, h4⟩
                  all_goals
                    go_wp2_with fail
                    go_meet
                    exact ⟨_, rfl, Lib.hid (by as_aux_lemma => unfold BY; simp; try omega), rfl⟩
                case rest =>
                obtain ⟨bY, rfl, HY, rfl⟩ := hcut
                have cla1 := Cla.out i j wc
                have haL : (a : Int) < (L.length : Int) := by omega
                rcases Htold.out i j with ⟨e1, hno⟩ | ⟨e1, hin, K, hK, eK, hh⟩
                · as_aux_lemma =>
                  rw [e1] at cla1
                  obtain ⟨z, ez⟩ : ∃ z, laI (N : Int) s i j = z := ⟨_, rfl⟩
                  rw [ez] at cla1
                  clear ez
                  have fr2 := FRel.skip fr (fun k hk g1 g2 g3 => absurd (by
                    have := (Hpart.out.inside _ (getD_memQ hk))
                    unfold QLeaf.has at g3
                    refine ⟨g1, g2, ?_, ?_⟩ <;> omega) hno)
                  have hcs : i < 0 ∨ (0 ≤ i ∧ j < 0) ∨ (0 ≤ i ∧ 0 ≤ j ∧ (N : Int) ≤ i) ∨ (0 ≤ i ∧ 0 ≤ j ∧ i < (N : Int) ∧ (N : Int) ≤ j) := by omega
                  have Cla1 := Lib.hid cla1; clear cla1
                  have Fr2 := Lib.hid fr2; clear fr2
                  have E1 := Lib.hid e1; clear e1
                  clear hno fr hxo hyo
                  go_wp2_with fail
                  with_reducible (refine Cla1.out.mono ?_)
                  rintro e w6 ⟨rfl, hb⟩
                  replace bo := bo.bl hb
                  replace U := U.bl hb
                  clear hb x0 x1 P7 Cla1
                  have in1 : IRel L r w5 j (.int .i64 (i + 1)) w6 := ⟨di + 1, _, F, by omega, rfl, by omega, Fr2.out, bo, U⟩
                  have In1 := Lib.hid in1; clear in1
                  clear bo U
                  rcases hcs with g1 | ⟨g1, g2⟩ | ⟨g1, g2, g3⟩ | ⟨g1, g2, g3, g4⟩
                  all_goals as_aux_lemma =>
                    go_wp2
                    go_roundw
                    case rel => exact In1.out
                    case measure => simp [intOf]; omega
                · rw [e1, eK] at cla1
                  obtain ⟨hi0, hj0, hiN, hjN⟩ := hin
                  have hK0 : (0 : Int) ≤ (K : Int) := Int.natCast_nonneg _
                  have hKL : (K : Int) < (L.length : Int) := by omega
                  by_cases hKa : K = a
                  · as_aux_lemma =>
                    subst hKa
                    rw [Er.out] at hh
                    have hbx : bx = true := HX.out.2 (by unfold QLeaf.has at hh; unfold BX; omega)
                    have hby : bY = true := HY.out.2 (by unfold QLeaf.has at hh; unfold BY; omega)
                    have fr2 := FRel.skip fr (fun k hk g1 g2 g3 => ⟨fun _ => HY.out.1 hby, fun _ => HX.out.1 hbx⟩)
                    subst hbx hby
                    clear HX HY hh fr hxo hyo
                    have Cla1 := Lib.hid cla1; clear cla1
                    have Fr2 := Lib.hid fr2; clear fr2
                    have E1 := Lib.hid e1; clear e1
                    have EK := Lib.hid eK; clear eK
                    go_wp2_with fail
                    with_reducible (refine Cla1.out.mono ?_)
                    rintro e w6 ⟨rfl, hb⟩
                    replace bo := bo.bl hb
                    replace U := U.bl hb
                    clear hb x0 x1 P7 Cla1
                    have in1 : IRel L r w5 j (.int .i64 (i + 1)) w6 := ⟨di + 1, _, F, by omega, rfl, by omega, Fr2.out, bo, U⟩
                    have In1 := Lib.hid in1; clear in1
                    clear bo U
                    go_wp2
                    go_roundw
                    case rel => exact In1.out
                    case measure => simp [intOf]; omega
                  · have hKa2 : ((K : Int) == (a : Int)) = false := by rw [beq_eq_false_iff_ne]; omega
                    have hnb : ¬ (bx = true ∧ bY = true) := fun ⟨g1, g2⟩ => hKa (by
                      have g3 := HX.out.1 g1
                      have g4 := HY.out.1 g2
                      unfold BX at g3
                      unfold BY at g4
                      refine Hpart.out.one hK ha hh ?_
                      rw [Er.out]
                      unfold QLeaf.has
                      omega)
                    cases bx <;> cases bY
                    · as_aux_lemma =>
                      have fr2 := FRel.skip fr (fun k hk g1 g2 g3 => ⟨fun g => absurd (HX.out.2 g) (by simp), fun g => absurd (HY.out.2 g) (by simp)⟩)
                      clear HX HY hh fr hxo hyo hnb
                      have Cla1 := Lib.hid cla1; clear cla1
                      have Fr2 := Lib.hid fr2; clear fr2
                      have E1 := Lib.hid e1; clear e1
                      have EK := Lib.hid eK; clear eK
                      go_wp2_with fail
                      with_reducible (refine Cla1.out.mono ?_)
                      rintro e w6 ⟨rfl, hb⟩
                      replace bo := bo.bl hb
                      replace U := U.bl hb
                      clear hb x0 x1 P7 Cla1
                      have in1 : IRel L r w5 j (.int .i64 (i + 1)) w6 := ⟨di + 1, _, F, by omega, rfl, by omega, Fr2.out, bo, U⟩
                      have In1 := Lib.hid in1; clear in1
                      clear bo U
                      go_wp2
                      go_roundw
                      case rel => exact In1.out
                      case measure => simp [intOf]; omega
                    · as_aux_lemma =>
                      have hnx : ¬ BX r i := fun g => absurd (HX.out.2 g) (by simp)
                      have hy1 : BY r j := HY.out.1 rfl
                      have fr2 := FRel.set Hpart.out fr hK hi0 hj0 hh (fun g => hnx (g.2 hy1)) (by omega) (by omega) (by omega)
                      clear HX HY hh fr hxo hyo hnb hnx hy1
                      have Cla1 := Lib.hid cla1; clear cla1
                      have Fr2 := Lib.hid fr2; clear fr2
                      have E1 := Lib.hid e1; clear e1
                      have EK := Lib.hid eK; clear eK
                      go_wp2_with fail
                      with_reducible (refine Cla1.out.mono ?_)
                      rintro e w6 ⟨rfl, hb⟩
                      replace bo := bo.bl hb
                      replace U := U.bl hb
                      clear hb x0 x1 P7 Cla1
                      have y0 := bo.cell hK
                      have y1 := bo.frozen K
                      have in1 : IRel L r w5 j (.int .i64 (i + 1)) (w6.setCell ⟨w5.heap.size, K, none⟩ (.bool true)) := ⟨di + 1, _, _, by omega, rfl, by omega, Fr2.out, bo.set K true, U.set (b := w5.heap.size) (Nat.le_refl _) K (.bool true)⟩
                      have In1 := Lib.hid in1; clear in1
                      clear bo U
                      go_wp2
                      go_roundw
                      case rel => exact In1.out
                      case measure => simp [intOf]; omega
                    · as_aux_lemma =>
                      have hny : ¬ BY r j := fun g => absurd (HY.out.2 g) (by simp)
                      have hx1 : BX r i := HX.out.1 rfl
                      have fr2 := FRel.set Hpart.out fr hK hi0 hj0 hh (fun g => hny (g.1 hx1)) (by omega) (by omega) (by omega)
                      clear HX HY hh fr hxo hyo hnb hny hx1
                      have Cla1 := Lib.hid cla1; clear cla1
                      have Fr2 := Lib.hid fr2; clear fr2
                      have E1 := Lib.hid e1; clear e1
                      have EK := Lib.hid eK; clear eK
                      go_wp2_with fail
                      with_reducible (refine Cla1.out.mono ?_)
                      rintro e w6 ⟨rfl, hb⟩
                      replace bo := bo.bl hb
                      replace U := U.bl hb
                      clear hb x0 x1 P7 Cla1
                      have y0 := bo.cell hK
                      have y1 := bo.frozen K
                      have in1 : IRel L r w5 j (.int .i64 (i + 1)) (w6.setCell ⟨w5.heap.size, K, none⟩ (.bool true)) := ⟨di + 1, _, _, by omega, rfl, by omega, Fr2.out, bo.set K true, U.set (b := w5.heap.size) (Nat.le_refl _) K (.bool true)⟩
                      have In1 := Lib.hid in1; clear in1
                      clear bo U
                      go_wp2
                      go_roundw
                      case rel => exact In1.out
                      case measure => simp [intOf]; omega
                    · exact absurd ⟨rfl, rfl⟩ hnb
              · as_aux_lemma =>
                have h2 : ¬ i ≤ (r.x : Int) + r.side := by omega
                have hi2 : i = (r.x : Int) + r.side + 1 := by omega
                rw [hi2] at fr
                have fr2 := fr.row
                have jn : JRel L r w5 (.int .i64 (j + 1)) wr := ⟨dj + 1, _, F, by omega, rfl, by omega, fr2, bo, U⟩
                have Jn := Lib.hid jn; clear jn
                have Hi2 := Lib.hid hi2; clear hi2
                clear fr fr2 bo U
                go_wp2
                go_roundw
                case rel => exact Jn.out
                case measure => simp [intOf]; omega
          · as_aux_lemma =>
            have h1 : ¬ j ≤ (r.y : Int) + r.side := by omega
            have hj2 : j = (r.y : Int) + r.side + 1 := by omega
            rw [hj2] at fr
            have hF := FRel.done (a := a) Hpart.out ha (by rw [Er.out]; exact fr)
            rw [Er.out] at hF
            have bo2 := bo.congr (f' := fun k => touchB r (L.getD k noLeaf)) (fun k hk => hF k hk)
            have TR2 := TR.bl U.below
            have hTl : (touchN L r L.length).length = TT.length := by rw [ETT.out]
            have HF := Lib.hid hF; clear hF
            have Hj2 := Lib.hid hj2; clear hj2
            clear fr bo TR
            go_wp2
            go_loop [27, 28] (fun x y => ∃ k : Nat, k ≤ L.length ∧ x = .int .i64 ((touchN L r k).length : Nat) ∧ y = .int .i64 k) (fun _ y => L.length - (intOf y).toNat)
            case atStart => exact ⟨0, Nat.zero_le _, rfl, rfl⟩
            case round =>
              obtain ⟨k, hk, rfl, rfl⟩ := hrel
              by_cases hlt : k < L.length
              · have hk0 : (0 : Int) ≤ (k : Int) := Int.natCast_nonneg _
                have hkL : (k : Int) < (L.length : Int) := by omega
                have y0 := bo2.cell hlt
                cases ht : touchB r (L.getD k noLeaf)
                · as_aux_lemma =>
                  simp only [ht] at y0
                  have hp := touchN_pass (l := L) ht
                  have k1 : ∃ k' : Nat, k' ≤ L.length ∧ (Value.int .i64 ((touchN L r k).length : Nat)) = .int .i64 ((touchN L r k').length : Nat) ∧ (Value.int .i64 ((k : Int) + 1)) = .int .i64 (k' : Nat) := ⟨k + 1, by omega, by rw [hp], by go_num⟩
                  have Hp := Lib.hid hp; clear hp
                  have Ht := Lib.hid ht; clear ht
                  have K1 := Lib.hid k1; clear k1
                  clear bo2 hTl
                  go_wp2
                  go_round
                  case rel => exact K1.out
                  case measure => simp [intOf]; omega
                · as_aux_lemma =>
                  simp only [ht] at y0
                  obtain ⟨h2, h3, h4⟩ := touchN_at hlt ht
                  rw [ETT.out] at h2 h3
                  obtain ⟨n, en⟩ : ∃ n, (touchN L r k).length = n := ⟨_, rfl⟩
                  rw [en] at h2 h3 h4 ⊢
                  obtain ⟨tb, tof, rfl, htb, tq⟩ := TR2.at h2
                  have y1 := tq n h2
                  rw [intAt, h3] at y1
                  have hn0 : (0 : Int) ≤ (n : Int) := Int.natCast_nonneg _
                  have hnT : (n : Int) < (TT.length : Int) := by omega
                  have k1 : ∃ k' : Nat, k' ≤ L.length ∧ (Value.int .i64 ((n : Int) + 1)) = .int .i64 ((touchN L r k').length : Nat) ∧ (Value.int .i64 ((k : Int) + 1)) = .int .i64 (k' : Nat) := ⟨k + 1, by omega, by rw [h4]; go_num, by go_num⟩
                  have H3 := Lib.hid h3; clear h3
                  have H4 := Lib.hid h4; clear h4
                  have Ht := Lib.hid ht; clear ht
                  have K1 := Lib.hid k1; clear k1
                  have Tq := Lib.hid tq; clear tq
                  have En := Lib.hid en; clear en
                  clear bo2 hTl TR2
                  go_wp2
                  go_round
                  case rel => exact K1.out
                  case measure => simp [intOf]; omega
              · as_aux_lemma =>
                obtain rfl : k = L.length := by omega
                rw [hTl]
                have he : ((TT.length : Int) == (TT.length : Int)) = true := beq_self_eq_true _
                clear hk hlt bo2 TR2
                have hbl := (T.bl U.below).below
                have Hbl := Lib.hid hbl; clear hbl
                go_wp2
                go_ret
                exact ⟨rfl, Hbl.out⟩
  · rw [hlong] at cl
    clear hr1 hr2 hb1 hb2
    have Cl := Lib.hid cl; clear cl
    go_enter Try.func10, Try.ntmps10
    go_wp2_with fail
    with_reducible (refine Cl.out.mono ?_)
    rintro e w1 ⟨rfl, rfl⟩
    go_wp2
    go_ret
    exact ⟨rfl, Below.refl _ _⟩
open Go.ChangeShapes Go.WideShapes Go.ChangeAt
open Go.ChangeMaps (open_string shut_string)

set_option maxRecDepth 100000 in
theorem lifted (os : Os) (started : os.Started) (H : Type) (enc : TypeId × Value → H) :
    ReturnsInHanded {} Try.checked os 10 .any (Rows.fnLeavesSpec.pre6 enc Try.prog Try.f10 Rows.fnLeavesRow.domain false) (Rows.fnLeavesSpec.post enc Try.prog Try.f10 false true false false) := by
  refine returnsInHanded_of_change (C := Try.checked) own started (by kernel_rfl) Try.func10
    (ChangeSpec.witness6 (enc := enc) (C := Try.checked) false ⟨#[], #[.slice none 0 0, .slice none 0 0], []⟩ 8 (by kernel_rfl) (by kernel_rfl) (by kernel_rfl) (by kernel_rfl)) ?_
  intro W base args ds gs before hval0 hW hcnd _
  have hval : ∀ (j : Nat) t v, Try.f10.params[j]? = some t → args[j]? = some v → Value.okWide Try.prog W .any base t v := hval0
  have hW' := hW
  obtain ⟨p, q, hA0, hV, rfl, hfz, hnd⟩ := hW
  have hA : DataW.TrodAll enc Try.prog W 0 (fun _ => true) true Try.f10.params.toList args.toList ds p := hA0
  rw [Try.params10] at hA hval
  obtain ⟨v0, vs0, d0, ds0, p0, q0, hargs, rfl, rfl, h0, r0⟩ := trodAll_cons hA
  obtain ⟨v1, vs1, d1, ds1, p1, q1, rfl, rfl, rfl, h1, r1⟩ := trodAll_cons r0
  obtain ⟨rfl, rfl, rfl⟩ := trodAll_nil r1
  obtain rfl : args = #[v0, v1] := by cases args; simp_all
  obtain ⟨rfl, rfl⟩ := trodVars_none hV
  have t0 : ∀ x ∈ p0, x.block < W.heap.size := fun x hx => hW'.lt x (by simp [hx])
  have k0 := hval 0 55 v0 rfl rfl
  have m0 := h0
  obtain ⟨p0', c0', l0', rfl, p0'n, p0's, p0'r⟩ := open_Bytes k0 h0
  have t1 : ∀ x ∈ p1, x.block < W.heap.size := fun x hx => hW'.lt x (by simp [hx])
  have k1 := hval 1 55 v1 rfl rfl
  have m1 := h1
  obtain ⟨p1', c1', l1', rfl, p1'n, p1's, p1'r⟩ := open_Bytes k1 h1
  refine (walk p0' c0' l0' p1' c1' l1' W p0'n p0's p0'r p1'n p1's p1'r).mono fun e W' ⟨he, hb⟩ => ?_
  subst he
  refine ⟨_, rfl, _, _, _, [], _, [], hW', trodAll_mk1 (shut_bool Try.underlying4 _), (trodAll_cons_mk (Below.trod laidOut (by kernel_rfl) (of_decide_eq_true (by kernel_rfl)) m0 hb t0) (trodAll_cons_mk (Below.trod laidOut (by kernel_rfl) (of_decide_eq_true (by kernel_rfl)) m1 hb t1) trodAll_mk0)), rfl, hb.frame _, fun h => by cases h⟩

theorem over : Rows.fnLeavesRow.holds Try.pinned (OpenSpec.ofChange Rows.fnLeavesSpec) :=
  OpenClaim.holds_of_wide 10 Try.f10 rfl rfl rfl rfl rfl rfl rfl ⟨rfl, rfl, rfl, rfl, rfl⟩ rfl rfl rfl rfl rfl (by kernel_rfl) Try.func10 (by kernel_rfl)
    (of_decide_eq_true (by kernel_rfl)) (by unfold Func.isWrapper; first | (rw [if_pos (by decide +kernel)]; kernel_rfl) | (rw [if_neg (by decide +kernel)]; exact ⟨rfl, rfl⟩))
    (fun os started H enc _ => lifted os started H enc)

theorem proved : Rows.FnLeavesSaid := over
#print axioms proved
end Go.Proofs.Ytnenogpagkepfaa.lawFnLeaves
