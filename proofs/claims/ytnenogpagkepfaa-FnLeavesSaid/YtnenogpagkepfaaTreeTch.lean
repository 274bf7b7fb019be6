/- Contracts of the reference's and of the program's TouchingLeaves. -/
import Derived.Test.YtnenogpagkepfaaTreeS8
import Derived.Test.YtnenogpagkepfaaLawIS
set_option linter.unusedVariables false
set_option linter.unusedSimpArgs false
namespace Go.Proofs.Ytnenogpagkepfaa
open Go.RowKit

theorem tl_no {n : Int} {s : ByteArray} {k : Int} (h : aoOk n s k = false) : tlL n s k = [] := by rw [tlL, h]; rfl
theorem tl_yes {n : Int} {s : ByteArray} {k : Int} (h : aoOk n s k = true) : tlL n s k = touchN (treeLv n s) ((treeLv n s).getD k.toNat noLeaf) (treeLv n s).length := by rw [tlL, h]; rfl
/-- Have two squares pixels next to one another, in the words of the reference. -/
def tchB (ax ay az bx bY bz : Int) : Bool := (ax + az == bx || bx + bz == ax) && (decide (ay < bY + bz) && decide (bY < ay + az)) || (ay + az == bY || bY + bz == ay) && (decide (ax < bx + bz) && decide (bx < ax + az))
theorem touch_tch (a b : QLeaf) : touchB a b = tchB a.x a.y a.side b.x b.y b.side := by
  unfold touchB tchB
  rw [Bool.eq_iff_iff]
  simp only [Bool.or_eq_true, Bool.and_eq_true, beq_iff_eq, decide_eq_true_eq]
  omega
/-- How many places two spans have in common. -/
def meetZ (a m b n : Int) : Int := min (a + m) (b + n) - max a b
theorem tch_meet (ax ay az bx bY bz : Int) (h1 : 1 ≤ az) (h2 : 1 ≤ bz) : (meetZ bx bz ax az == 0 && decide (0 < meetZ bY bz ay az) || meetZ bY bz ay az == 0 && decide (0 < meetZ bx bz ax az)) = tchB ax ay az bx bY bz := by
  unfold tchB meetZ
  rw [Bool.eq_iff_iff]
  simp only [Bool.or_eq_true, Bool.and_eq_true, beq_iff_eq, decide_eq_true_eq]
  omega
/-- The loops of TouchingLeaves. -/
def TlRel (w : World) (M : List Int) (v : Value) (wr : World) : Prop := ∃ q c, v = .slice q M.length c ∧ wr.ownsRow w.heap.size 2 1 (.slice q M.length c) M.length (intCells M) ∧ Since w wr
theorem intCells_snoc' (M : List Int) (x : Int) : intCells (M ++ [x]) = intCells M ++ [.int .i64 x] := by simp [intCells]
set_option maxHeartbeats 1000000 in
theorem meets_any (a m b n : Int) (w : World) (ha : 0 ≤ a ∧ a ≤ 100) (hm : 0 ≤ m ∧ m ≤ 100) (hb : 0 ≤ b ∧ b ≤ 100) (hn : 0 ≤ n ∧ n ≤ 100) :
    Calls Try.prog 100 #[.int .i64 a, .int .i64 m, .int .i64 b, .int .i64 n] w fun e w' => e = .returned (.int .i64 (meetZ a m b n)) ∧ w' = w := by
  obtain ⟨a1, a2⟩ := ha
  obtain ⟨m1, m2⟩ := hm
  obtain ⟨b1, b2⟩ := hb
  obtain ⟨n1, n2⟩ := hn
  unfold meetZ
  go_enter Try.func100, Try.ntmps100
  go_wp2
  all_goals
    go_ret
    exact ⟨ret_int (by omega), rfl⟩
set_option maxHeartbeats 2000000 in
theorem touches_any (ax ay az bx bY bz : Int) (w : World) (h1 : 0 ≤ ax ∧ ax ≤ 100) (h2 : 0 ≤ ay ∧ ay ≤ 100) (h3 : 1 ≤ az ∧ az ≤ 100) (h4 : 0 ≤ bx ∧ bx ≤ 100) (h5 : 0 ≤ bY ∧ bY ≤ 100) (h6 : 1 ≤ bz ∧ bz ≤ 100) :
    Calls Try.prog 71 #[.agg #[.int .i64 bx, .int .i64 bY, .int .i64 bz], .agg #[.int .i64 ax, .int .i64 ay, .int .i64 az]] w fun e w' => e = .returned (.bool (tchB ax ay az bx bY bz)) ∧ Below w.heap.size w w' := by
  have hb := ((bl_alloc w (.cells #[.int .i64 bx, .int .i64 bY, .int .i64 bz] 81)).alloc (by simp) (.cells #[.int .i64 ax, .int .i64 ay, .int .i64 az] 81))
  have cx := fun w => meets_any bx bz ax az w h4 (by omega) h1 (by omega)
  have cy := fun w => meets_any bY bz ay az w h5 (by omega) h2 (by omega)
  have ht := tch_meet ax ay az bx bY bz h3.1 h6.1
  generalize meetZ bx bz ax az = X at *
  generalize meetZ bY bz ay az = Y at *
  generalize tchB ax ay az bx bY bz = R at *
  have B1 := (Blk.new w #[.int .i64 bx, .int .i64 bY, .int .i64 bz] 81).bl (bl_alloc _ (.cells #[.int .i64 ax, .int .i64 ay, .int .i64 az] 81))
  have B2 := Blk.new (w.alloc (.cells #[.int .i64 bx, .int .i64 bY, .int .i64 bz] 81)) #[.int .i64 ax, .int .i64 ay, .int .i64 az] 81
  simp only [World.size_alloc] at B2
  have x0 := B1.cell 0 rfl
  have x1 := B1.cell 1 rfl
  have x2 := B1.cell 2 rfl
  have y0 := B2.cell 0 rfl
  have y1 := B2.cell 1 rfl
  have y2 := B2.cell 2 rfl
  clear h1 h2 h3 h4 h5 h6 B1 B2
  have hfn : ∀ b w', b = R → Below w.heap.size w w' → (Ending.returned (.bool b) = .returned (.bool R) ∧ Below w.heap.size w w') := fun b w' h1 h2 => ⟨by rw [h1], h2⟩
  have Cx := Lib.hid cx; clear cx
  have Cy := Lib.hid cy; clear cy
  have Ht := Lib.hid ht; clear ht
  have Hfn := Lib.hid hfn; clear hfn
  go_enter Try.func71, Try.ntmps71
  go_upto_region 1 with (fail)
  generalize (w.alloc (.cells #[.int .i64 bx, .int .i64 bY, .int .i64 bz] 81)).alloc (.cells #[.int .i64 ax, .int .i64 ay, .int .i64 az] 81) = wa at *
  go_quiet ((go_at_call 100; first | (with_reducible exact Calls.quiet_of_same (Cx.out _)) | (with_reducible exact Calls.quiet_of_same (Cy.out _))))
  cases gX : (X == 0)
  all_goals cases gY : (Y == 0)
  all_goals cases pX : (decide (0 < X))
  all_goals cases pY : (decide (0 < Y))
  all_goals
    have hr := Ht.out
    rw [gX, gY, pX, pY] at hr
    have Hr := Lib.hid hr; clear hr
    go_wp2
    go_ret
    exact Hfn.out _ _ Hr.out (bl_trans hb (bl_drewN _ _))
/-- How two spans lie to each other. -/
theorem span5 (a m b n : Int) (h1 : 1 ≤ m) (h2 : 1 ≤ n) :
    ((a + m == b) = true ∧ (b + n == a) = false ∧ decide (a < b + n) = true ∧ decide (b < a + m) = false) ∨ ((a + m == b) = false ∧ (b + n == a) = true ∧ decide (a < b + n) = false ∧ decide (b < a + m) = true) ∨
    ((a + m == b) = false ∧ (b + n == a) = false ∧ decide (a < b + n) = true ∧ decide (b < a + m) = true) ∨ ((a + m == b) = false ∧ (b + n == a) = false ∧ decide (a < b + n) = false ∧ decide (b < a + m) = true) ∨
    ((a + m == b) = false ∧ (b + n == a) = false ∧ decide (a < b + n) = true ∧ decide (b < a + m) = false) := by
  simp only [beq_iff_eq, beq_eq_false_iff_ne, decide_eq_true_eq, decide_eq_false_iff_not, ne_eq]
  omega
set_option maxRecDepth 100000 in
set_option maxHeartbeats 4000000 in
theorem sTouching_any (n : Int) (s : ByteArray) (k : Int) (w : World) (hs : s.size ≤ maxLen) (h0 : -9223372036854775808 ≤ k) (h1 : k ≤ 9223372036854775807) :
    Calls Try.prog 30 #[.agg #[.int .i64 n, .string s], .int .i64 k] w fun e w' => ∃ v, e = .returned (.tuple #[v, .bool (aoOk n s k)]) ∧ OwnInts w.heap.size w' v (tlL n s k) ∧ Below w.heap.size w w' := by
  have V := TreeVar.new w n s
  have S := (Since.refl w).alloc (.cells #[.int .i64 n, .string s] 26)
  have c0 := l02All_any w.heap.size n s _ V hs
  unfold AllOut at c0
  cases hv : treeV n s
  · have ha := ao_no (k := k) hv
    rw [tl_no ha, ha]
    rw [hv] at c0
    have C0 := Lib.hid c0; clear c0
    have Hv := Lib.hid hv; clear hv
    have Ha := Lib.hid ha; clear ha
    clear V
    go_enter Try.func30, Try.ntmps30
    go_wp2_with fail
    with_reducible (refine C0.out.mono ?_)
    rintro e w1 ⟨hb, v, L, rfl, O, hL⟩
    obtain ⟨q, d, rfl⟩ := O.form
    replace S := S.bl hb
    clear hb O hL
    go_wp2
    go_ret2
    exact ⟨_, rfl, OwnInts.nil _ _, S.below⟩
  · rw [hv] at c0
    have lok := treeLv_ok hv
    have hl1 := lok.pos
    have hl2 := lok.len
    have hbd := lok.bd
    have c1 := fun w => l00In_any k 0 (((treeLv n s).length : Int) - 1) w
    cases hi : inB k 0 (((treeLv n s).length : Int) - 1)
    · have ha := ao_out hi
      rw [tl_no ha, ha]
      simp only [hi] at c1
      generalize treeLv n s = LV at *
      have C0 := Lib.hid c0; clear c0
      have Hv := Lib.hid hv; clear hv
      have Ha := Lib.hid ha; clear ha
      have C1 := Lib.hid c1; clear c1
      have Hi := Lib.hid hi; clear hi
      clear V lok hbd
      go_enter Try.func30, Try.ntmps30
      go_wp2_with fail
      with_reducible (refine C0.out.mono ?_)
      rintro e w1 ⟨hb, v, L, rfl, O, hL⟩
      have hL2 : L = LV := hL (by trivial)
      subst hL2
      obtain ⟨q, d, rfl⟩ := O.form
      replace S := S.bl hb
      clear hb O hL
      go_wp2_with fail
      with_reducible (refine (C1.out _).mono ?_)
      rintro e w2 ⟨rfl, rfl⟩
      go_wp2
      go_ret2
      exact ⟨_, rfl, OwnInts.nil _ _, S.below⟩
    · have ha := ao_yes hv hi
      rw [tl_yes ha, ha]
      simp only [hi] at c1
      obtain ⟨hk0, hk1⟩ := inB_true hi
      obtain ⟨kn, rfl⟩ : ∃ kn : Nat, k = kn := ⟨k.toNat, by omega⟩
      rw [Int.toNat_natCast]
      have hkn : kn < (treeLv n s).length := by omega
      have hbk := hbd kn hkn
      have htc := fun i => touch_tch ((treeLv n s).getD kn noLeaf) ((treeLv n s).getD i noLeaf)
      have hyes := fun i (h : touchB ((treeLv n s).getD kn noLeaf) ((treeLv n s).getD i noLeaf) = true) => touchN_yes h
      have hno := fun i (h : touchB ((treeLv n s).getD kn noLeaf) ((treeLv n s).getD i noLeaf) = false) => touchN_no h
      have hlenN := fun i => touchN_len (treeLv n s) ((treeLv n s).getD kn noLeaf) i
      have hzero : touchN (treeLv n s) ((treeLv n s).getD kn noLeaf) 0 = [] := rfl
      generalize treeLv n s = LV at *
      obtain ⟨TN, eTN⟩ : ∃ TN, touchN LV (LV.getD kn noLeaf) = TN := ⟨_, rfl⟩
      rw [eTN]
      simp only [eTN] at hyes hno hlenN hzero
      have C0 := Lib.hid c0; clear c0
      have Hv := Lib.hid hv; clear hv
      have Ha := Lib.hid ha; clear ha
      have C1 := Lib.hid c1; clear c1
      have Hi := Lib.hid hi; clear hi
      have Hbd := Lib.hid hbd; clear hbd
      have Htc := Lib.hid htc; clear htc
      have Hyes := Lib.hid hyes; clear hyes
      have Hno := Lib.hid hno; clear hno
      have HlenN := Lib.hid hlenN; clear hlenN
      have Hzero := Lib.hid hzero; clear hzero
      have ETN := Lib.hid eTN; clear eTN
      clear V lok
      go_enter Try.func30, Try.ntmps30
      go_wp2_with fail
      with_reducible (refine C0.out.mono ?_)
      rintro e w1 ⟨hb, v, L, rfl, O, hL⟩
      have hL2 : L = LV := hL (by trivial)
      subst hL2
      obtain ⟨p, d, rfl⟩ := O.form
      have R := O.rd
      obtain ⟨b, o, rfl, hbl, x0, x1, x2, x3, x4⟩ := leaf_cells R hkn
      simp only [Bool.false_eq_true, if_false] at x3
      obtain ⟨k1, k2, k3, k4⟩ := hbk
      replace S := S.bl hb
      obtain ⟨a0, ea0⟩ : ∃ z : Int, ((L.getD kn noLeaf).x : Int) = z := ⟨_, rfl⟩
      obtain ⟨a1, ea1⟩ : ∃ z : Int, ((L.getD kn noLeaf).y : Int) = z := ⟨_, rfl⟩
      obtain ⟨a2, ea2⟩ : ∃ z : Int, ((L.getD kn noLeaf).side : Int) = z := ⟨_, rfl⟩
      obtain ⟨a3, ea3⟩ : ∃ z : Int, (if (L.getD kn noLeaf).black = true then (1 : Int) else 0) = z := ⟨_, rfl⟩
      obtain ⟨a4, ea4⟩ : ∃ z : ByteArray, (L.getD kn noLeaf).addr = z := ⟨_, rfl⟩
      have ka0 : 0 ≤ a0 ∧ a0 ≤ 100 := by omega
      have ka1 : 0 ≤ a1 ∧ a1 ≤ 100 := by omega
      have ka2 : 1 ≤ a2 ∧ a2 ≤ 100 := by omega
      rw [ea0] at x0
      rw [ea1] at x1
      rw [ea2] at x2
      rw [ea3] at x3
      rw [ea4] at x4
      have htc2 := Htc.out
      simp only [ea0, ea1, ea2] at htc2
      clear hb O hL k1 k2 k3 k4
      have Ea0 := Lib.hid ea0; clear ea0
      have Ea1 := Lib.hid ea1; clear ea1
      have Ea2 := Lib.hid ea2; clear ea2
      have Ea3 := Lib.hid ea3; clear ea3
      have Ea4 := Lib.hid ea4; clear ea4
      have Htc2 := Lib.hid htc2; clear htc2
      go_wp2_with fail
      with_reducible (refine (C1.out _).mono ?_)
      rintro e w2 ⟨rfl, rfl⟩
      have A0 := Blk.new w1 #[.int .i64 a0, .int .i64 a1, .int .i64 a2, .int .i64 a3, .string a4] 79
      have SA := S.alloc (.cells #[.int .i64 a0, .int .i64 a1, .int .i64 a2, .int .i64 a3, .string a4] 79)
      have R0 := R.alloc (.cells #[.int .i64 a0, .int .i64 a1, .int .i64 a2, .int .i64 a3, .string a4] 79)
      clear R S
      go_upto_region 5 with (fail)
      generalize w1.alloc (.cells #[.int .i64 a0, .int .i64 a1, .int .i64 a2, .int .i64 a3, .string a4] 79) = wA at *
      have T0 := World.ownsRow_made (base := wA.heap.size) (size := 1) (e := 2) wA #[] 0 (Nat.le_refl _) (by decide) rfl
      obtain ⟨ka00, ka01⟩ := ka0
      obtain ⟨ka10, ka11⟩ := ka1
      obtain ⟨ka20, ka21⟩ := ka2
      clear x0 x1 x2 x3 x4
      go_wp2_with fail
      go_loopw [9, 10] (fun v i wr => ∃ j : Nat, j ≤ L.length ∧ i = .int .i64 j ∧ TlRel wA (TN j) v wr) (fun _ i _ => L.length - (intOf i).toNat)
      case atStart => exact ⟨0, Nat.zero_le _, rfl, by rw [Hzero.out]; exact ⟨_, _, rfl, T0, (Since.refl wA).alloc _⟩⟩
      case round =>
        clear T0
        obtain ⟨j, hj, rfl, q, c, rfl, hown, S1⟩ := hrel
        have hj0 : (0 : Int) ≤ (j : Int) := Int.natCast_nonneg _
        by_cases hlt : j < L.length
        · have hj1 : (j : Int) < (L.length : Int) := by omega
          obtain ⟨b1, b2, b3, b4⟩ := Hbd.out j hlt
          obtain ⟨bb, oo, he, hbl1, x0, x1, x2, x3, x4⟩ := leaf_cells (R0.bl S1.below) hlt
          simp only [Option.some.injEq, Addr.mk.injEq] at he
          obtain ⟨rfl, rfl, _⟩ := he
          simp only [Bool.false_eq_true, if_false] at x3
          have A := A0.bl S1.below
          have y0 := A.cell 0 rfl
          have y1 := A.cell 1 rfl
          have y2 := A.cell 2 rfl
          have hAlt := A.lt
          have hsz := S1.size
          have ht := Htc2.out j
          have hy := Hyes.out j
          have hn := Hno.out j
          have hle := HlenN.out j
          obtain ⟨u0, eu0⟩ : ∃ z : Int, ((L.getD j noLeaf).x : Int) = z := ⟨_, rfl⟩
          obtain ⟨u1, eu1⟩ : ∃ z : Int, ((L.getD j noLeaf).y : Int) = z := ⟨_, rfl⟩
          obtain ⟨u2, eu2⟩ : ∃ z : Int, ((L.getD j noLeaf).side : Int) = z := ⟨_, rfl⟩
          obtain ⟨u3, eu3⟩ : ∃ z : Int, (if (L.getD j noLeaf).black = true then (1 : Int) else 0) = z := ⟨_, rfl⟩
          obtain ⟨u4, eu4⟩ : ∃ z : ByteArray, (L.getD j noLeaf).addr = z := ⟨_, rfl⟩
          have ku00 : 0 ≤ u0 := by omega
          have ku01 : u0 ≤ 100 := by omega
          have ku10 : 0 ≤ u1 := by omega
          have ku11 : u1 ≤ 100 := by omega
          have ku20 : 1 ≤ u2 := by omega
          have ku21 : u2 ≤ 100 := by omega
          rw [eu0] at x0
          rw [eu1] at x1
          rw [eu2] at x2
          rw [eu3] at x3
          rw [eu4] at x4
          rw [eu0, eu1, eu2] at ht
          have hsx := span5 a0 a2 u0 u2 ka20 ku20
          have hsy := span5 a1 a2 u1 u2 ka20 ku20
          have hown2 := own_below hown (bl_alloc wr (.cells #[.int .i64 u0, .int .i64 u1, .int .i64 u2, .int .i64 u3, .string u4] 79)) (Nat.le_refl _)
          have S2 := S1.alloc (.cells #[.int .i64 u0, .int .i64 u1, .int .i64 u2, .int .i64 u3, .string u4] 79)
          have BL := Blk.new wr #[.int .i64 u0, .int .i64 u1, .int .i64 u2, .int .i64 u3, .string u4] 79
          have AL := A.bl (bl_alloc wr (.cells #[.int .i64 u0, .int .i64 u1, .int .i64 u2, .int .i64 u3, .string u4] 79))
          clear b1 b2 b3 b4 hown A S1 hsx hsy
          unfold tchB at ht
          obtain ⟨X1, eX1⟩ : ∃ X : Bool, (a0 + a2 == u0 || u0 + u2 == a0) = X := ⟨_, rfl⟩
          obtain ⟨X2, eX2⟩ : ∃ X : Bool, (a1 + a2 == u1 || u1 + u2 == a1) = X := ⟨_, rfl⟩
          obtain ⟨X3, eX3⟩ : ∃ X : Bool, (decide (a1 < u1 + u2) && decide (u1 < a1 + a2)) = X := ⟨_, rfl⟩
          obtain ⟨X4, eX4⟩ : ∃ X : Bool, (decide (a0 < u0 + u2) && decide (u0 < a0 + a2)) = X := ⟨_, rfl⟩
          rw [eX1, eX2, eX3, eX4] at ht
          obtain ⟨X5, eX5⟩ : ∃ X : Bool, (X1 && X3 || X2 && X4) = X := ⟨_, rfl⟩
          rw [eX5] at ht
          have w1' : IntKind.i64.wrap (a0 + a2) = a0 + a2 := IntWalk.i64_in _ (by omega)
          have w2' : IntKind.i64.wrap (u0 + u2) = u0 + u2 := IntWalk.i64_in _ (by omega)
          have w3' : IntKind.i64.wrap (a1 + a2) = a1 + a2 := IntWalk.i64_in _ (by omega)
          have w4' : IntKind.i64.wrap (u1 + u2) = u1 + u2 := IntWalk.i64_in _ (by omega)
          have Eu0 := Lib.hid eu0; clear eu0
          have Eu1 := Lib.hid eu1; clear eu1
          have Eu2 := Lib.hid eu2; clear eu2
          have Eu3 := Lib.hid eu3; clear eu3
          have Eu4 := Lib.hid eu4; clear eu4
          have Ht := Lib.hid ht; clear ht
          have Hy := Lib.hid hy; clear hy
          have Hn := Lib.hid hn; clear hn
          have EX1 := Lib.hid eX1; clear eX1
          have EX2 := Lib.hid eX2; clear eX2
          have EX3 := Lib.hid eX3; clear eX3
          have EX4 := Lib.hid eX4; clear eX4
          have EX5 := Lib.hid eX5; clear eX5
          go_upto_region 10 with (fail)
          have z0 := AL.cell 0 rfl
          have z1 := AL.cell 1 rfl
          have z2 := AL.cell 2 rfl
          have v0 := BL.cell 0 rfl
          have v1 := BL.cell 1 rfl
          have v2 := BL.cell 2 rfl
          clear x0 x1 x2 x3 x4 y0 y1 y2 AL BL ku00 ku01 ku10 ku11 ku20 ku21 ka00 ka01 ka10 ka11 ka20 ka21
          generalize wr.alloc (.cells #[.int .i64 u0, .int .i64 u1, .int .i64 u2, .int .i64 u3, .string u4] 79) = wb at *
          have hszb := S2.size
          go_cut [12] from 35 to 130 (fun sx wx => sx = .bool X1 ∧ wb = wx)
          case first =>
            cases g1 : (a0 + a2 == u0)
            all_goals cases g2 : (u0 + u2 == a0)
            all_goals
              have gX := EX1.out
              rw [g1, g2] at gX
              have GX := Lib.hid gX; clear gX
              go_wp2_with fail
              go_meet
              exact ⟨by rw [← GX.out]; rfl, rfl⟩
          case rest =>
          obtain ⟨rfl, rfl⟩ := hcut
          go_upto_region 11 with (fail)
          go_cut [13] from 35 to 130 (fun sx wx => sx = .bool X2 ∧ wb = wx)
          case first =>
            cases g1 : (a1 + a2 == u1)
            all_goals cases g2 : (u1 + u2 == a1)
            all_goals
              have gX := EX2.out
              rw [g1, g2] at gX
              have GX := Lib.hid gX; clear gX
              go_wp2_with fail
              go_meet
              exact ⟨by rw [← GX.out]; rfl, rfl⟩
          case rest =>
          obtain ⟨rfl, rfl⟩ := hcut
          go_upto_region 12 with (fail)
          go_cut [14] from 35 to 130 (fun sx wx => sx = .bool X3 ∧ wb = wx)
          case first =>
            cases g1 : (decide (a1 < u1 + u2))
            all_goals cases g2 : (decide (u1 < a1 + a2))
            all_goals
              have gX := EX3.out
              rw [g1, g2] at gX
              have GX := Lib.hid gX; clear gX
              go_wp2_with fail
              go_meet
              exact ⟨by rw [← GX.out]; rfl, rfl⟩
          case rest =>
          obtain ⟨rfl, rfl⟩ := hcut
          go_upto_region 13 with (fail)
          go_cut [15] from 35 to 130 (fun sx wx => sx = .bool X4 ∧ wb = wx)
          case first =>
            cases g1 : (decide (a0 < u0 + u2))
            all_goals cases g2 : (decide (u0 < a0 + a2))
            all_goals
              have gX := EX4.out
              rw [g1, g2] at gX
              have GX := Lib.hid gX; clear gX
              go_wp2_with fail
              go_meet
              exact ⟨by rw [← GX.out]; rfl, rfl⟩
          case rest =>
          obtain ⟨rfl, rfl⟩ := hcut
          cases X5
          · have hs2 := Hn.out Ht.out
            have Hs2 := Lib.hid hs2; clear hs2
            cases X1
            all_goals cases X3
            all_goals cases X2
            all_goals cases X4
            all_goals first | (exact absurd EX5.out (by decide)) | skip
            all_goals
              go_wp2
              go_roundw
              case rel => exact ⟨j + 1, by omega, by go_num, by rw [Hs2.out]; exact ⟨_, _, rfl, hown2, S2⟩⟩
              case measure => simp [intOf]; omega
          · have hs2 := Hy.out Ht.out
            have Hs2 := Lib.hid hs2; clear hs2
            cases X1
            all_goals cases X3
            all_goals cases X2
            all_goals cases X4
            all_goals first | (exact absurd EX5.out (by decide)) | skip
            all_goals
              go_wp2_with (at_builtin; refine wpList_pushA wb.heap.size rfl rfl _ _ 47 rfl wA.heap.size 2 (.int .i64 0) 1 8 Try.underlying47 info_i64 rfl (by decide) (.slice q (TN j).length c) (TN j).length _ rfl hown2 _ 1 rfl rfl (one_int _ _) (by omega) (by simp [maxLen]; omega) (by omega) ?_; intro g' cap w2 hown3 hgr hat hlt2)
              go_roundw
              case rel => exact ⟨j + 1, by omega, by go_num, by rw [Hs2.out]; exact ⟨_, _, by rw [List.length_append]; rfl, by rw [List.length_append, intCells_snoc']; exact hown3, ⟨below_own S2.below hgr (own_ge hown2) S2.size⟩⟩⟩
              case measure => simp [intOf]; omega
        · obtain rfl : j = L.length := by omega
          have hszA := SA.size
          have SF := SA.bl S1.below
          go_wp2
          go_ret2
          exact ⟨_, rfl, ⟨_, _, rfl, own_mono hown hszA⟩, SF.below⟩
end Go.Proofs.Ytnenogpagkepfaa
