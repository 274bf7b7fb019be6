/- Contract of the program's BoxOf. -/
import Derived.Test.YtakoklldmdbphaaRegHL
import Derived.BigRegion
set_option linter.unusedVariables false
set_option linter.unusedSimpArgs false
namespace Go.Proofs.Ytakoklldmdbphaa
open Go.RowKit

theorem box_cmp (m u : Int) : (m ≤ u ∧ min m u = m) ∨ (u < m ∧ min m u = u) := by omega
theorem box_cmx (m u : Int) : (u ≤ m ∧ max m u = m) ∨ (m < u ∧ max m u = u) := by omega
set_option maxRecDepth 100000 in
set_option maxHeartbeats 8000000 in
theorem boxOf_any (p : Option Addr) (c : Nat) (ss : List ByteArray) (w : World) (hn : ss.length ≤ 1048576) (hs : ∀ s ∈ ss, s.size ≤ 1048576) (hr : Rd w p ss.length (strAt ss)) :
    Calls Try.prog 17 #[.agg #[.slice p ss.length c]] w fun e w' =>
      e = .returned (.tuple #[.agg #[.int .i64 (boxR ss).1.1, .int .i64 (boxR ss).1.2], .agg #[.int .i64 (boxR ss).2.1, .int .i64 (boxR ss).2.2], .bool (boxOk ss)]) ∧ Below w.heap.size w w' := by
  have S := (((Since.refl w).alloc (.cells #[.slice p ss.length c] 30)).alloc (.cells #[.int .i64 0, .int .i64 0] 27)).alloc (.cells #[.int .i64 0, .int .i64 0] 27)
  have R0 := ((hr.alloc (.cells #[.slice p ss.length c] 30)).alloc (.cells #[.int .i64 0, .int .i64 0] 27)).alloc (.cells #[.int .i64 0, .int .i64 0] 27)
  have A := (Blk.new (w.alloc (.cells #[.slice p ss.length c] 30)) #[.int .i64 0, .int .i64 0] 27).alloc (.cells #[.int .i64 0, .int .i64 0] 27)
  have B := Blk.new ((w.alloc (.cells #[.slice p ss.length c] 30)).alloc (.cells #[.int .i64 0, .int .i64 0] 27)) #[.int .i64 0, .int .i64 0] 27
  simp only [World.size_alloc] at A B
  have c0 := imageOf_any p c ss _ hn hs R0
  unfold ImgOut at c0
  cases hok : okPic ss
  · have hv : boxOk ss = false := by simp [boxOk, hok]
    have hv2 : boxR ss = ((0, 0), (0, 0)) := by simp [boxR, hv]
    simp only [hok, true_and, Bool.false_eq_true, false_and, or_false] at c0
    rw [hv, hv2]
    have C0 := Lib.hid c0; clear c0
    have Hok := Lib.hid hok; clear hok
    have Hv := Lib.hid hv; clear hv
    have Hv2 := Lib.hid hv2; clear hv2
    go_enter Try.func17, Try.ntmps17
    go_wp2_with fail
    with_reducible (refine C0.out.mono ?_)
    rintro e w1 ⟨hb, rfl⟩
    replace S := S.bl hb
    replace A := A.bl hb
    replace B := B.bl hb
    have hlA := A.lt
    have hlB := B.lt
    obtain ⟨e0, f0, e1, f1, t0, t1⟩ := A.two (.int .i64 0) (.int .i64 0)
    have B2 := (B.other (a := ⟨w.heap.size + 1, 0, none⟩) (by simp) (.int .i64 0)).other (a := ⟨w.heap.size + 1, 1, none⟩) (by simp) (.int .i64 0)
    have A2 := ((A.set2 (.int .i64 0) (.int .i64 0)).other (a := ⟨w.heap.size + 1 + 1, 0, none⟩) (by simp) (.int .i64 0)).other (a := ⟨w.heap.size + 1 + 1, 1, none⟩) (by simp) (.int .i64 0)
    obtain ⟨e2, f2, e3, f3, t2, t3⟩ := B2.two (.int .i64 0) (.int .i64 0)
    have t4 := A2.cell 0 rfl
    have t5 := A2.cell 1 rfl
    clear hb R0
    go_wp2
    refine bodyPost_ret (v := .tuple #[.agg #[.int .i64 0, .int .i64 0], .agg #[.int .i64 0, .int .i64 0], .bool false]) (by simp [results, Try.results17, go_sem, t2, t3, t4, t5]) rfl ⟨rfl, ((S.set2 (b := w.heap.size + 1) (by omega) _ _).set2 (b := w.heap.size + 1 + 1) (by omega) _ _).below⟩
  · have hsl : spotsL ss = spotsTo (wid ss) (bits ss) (wid ss * ss.length) := by rw [spotsL, if_pos hok]
    have c1 := fun m g w' (I : Img w' m g (wid ss) ss.length (bits ss)) => count_any m g _ _ _ w' I
    have c2 := fun m g w' (I : Img w' m g (wid ss) ss.length (bits ss)) => spots_any m g _ _ _ w' I
    rw [← hsl] at c1 c2
    simp only [hok, true_and, Bool.true_eq_false, false_and, false_or] at c0
    have hbd := spotsL_len ss
    have hbo : boxOk ss = !(((spotsL ss).length : Int) == 0) := by simp [boxOk, hok]
    have hbr : boxR ss = if boxOk ss then boxN (spotsL ss) (spotsL ss).length else ((0, 0), (0, 0)) := rfl
    obtain ⟨l, el⟩ : ∃ l, spotsL ss = l := ⟨_, rfl⟩
    rw [el] at c1 c2 hbd hbr hbo
    clear el hsl
    have C0 := Lib.hid c0; clear c0
    have C1 := Lib.hid c1; clear c1
    have C2 := Lib.hid c2; clear c2
    have Hok := Lib.hid hok; clear hok
    have Hbr := Lib.hid hbr; clear hbr
    have Hbo := Lib.hid hbo; clear hbo
    go_enter Try.func17, Try.ntmps17
    go_wp2_with fail
    with_reducible (refine C0.out.mono ?_)
    rintro e w1 ⟨hb, m, g, rfl, I, hm, hg⟩
    replace S := S.bl hb
    replace A := A.bl hb
    replace B := B.bl hb
    clear hb R0
    go_wp2_with fail
    with_reducible (refine (C1.out _ _ _ I).mono ?_)
    rintro e w2 ⟨rfl, hb⟩
    replace S := S.bl hb
    replace A := A.bl hb
    replace B := B.bl hb
    replace I := I.bl hb
    clear hb
    rcases Nat.eq_zero_or_pos l.length with h0 | h0
    · have hv : boxOk ss = false := by rw [Hbo.out, h0]; rfl
      have hv2 : boxR ss = ((0, 0), (0, 0)) := by rw [Hbr.out, hv]; rfl
      have hl0 : ((l.length : Int) == 0) = true := by rw [h0]; rfl
      have Hv := Lib.hid hv; clear hv
      have Hv2 := Lib.hid hv2; clear hv2
      have hlA := A.lt
      have hlB := B.lt
      obtain ⟨e0, f0, e1, f1, t0, t1⟩ := A.two (.int .i64 0) (.int .i64 0)
      have B2 := (B.other (a := ⟨w.heap.size + 1, 0, none⟩) (by simp) (.int .i64 0)).other (a := ⟨w.heap.size + 1, 1, none⟩) (by simp) (.int .i64 0)
      have A2 := ((A.set2 (.int .i64 0) (.int .i64 0)).other (a := ⟨w.heap.size + 1 + 1, 0, none⟩) (by simp) (.int .i64 0)).other (a := ⟨w.heap.size + 1 + 1, 1, none⟩) (by simp) (.int .i64 0)
      obtain ⟨e2, f2, e3, f3, t2, t3⟩ := B2.two (.int .i64 0) (.int .i64 0)
      have t4 := A2.cell 0 rfl
      have t5 := A2.cell 1 rfl
      clear I
      go_wp2
      refine bodyPost_ret (v := .tuple #[.agg #[.int .i64 0, .int .i64 0], .agg #[.int .i64 0, .int .i64 0], .bool false]) (by simp [results, Try.results17, go_sem, t2, t3, t4, t5]) rfl ⟨by rw [Hv.out, Hv2.out], ((S.set2 (b := w.heap.size + 1) (by omega) _ _).set2 (b := w.heap.size + 1 + 1) (by omega) _ _).below⟩
    · have hv : boxOk ss = true := by
        have : ((l.length : Int) == 0) = false := by rw [beq_eq_false_iff_ne]; omega
        rw [Hbo.out, this]; rfl
      have hv2 : boxR ss = boxN l l.length := by rw [Hbr.out, hv]; rfl
      have hl0 : ((l.length : Int) == 0) = false := by rw [beq_eq_false_iff_ne]; omega
      have hl1 : (0 : Int) < (l.length : Int) := by omega
      have Hv := Lib.hid hv; clear hv
      have Hv2 := Lib.hid hv2; clear hv2
      go_wp2_with fail
      with_reducible (refine (C2.out _ _ _ I).mono ?_)
      rintro e w3 ⟨v, rfl, O, hb⟩
      obtain ⟨q, d, rfl⟩ := O.form
      replace S := S.bl hb
      replace A := A.bl hb
      replace B := B.bl hb
      have R := O.rd
      have hsz : w.heap.size + 1 + 1 + 1 ≤ w3.heap.size := by have := B.lt; omega
      clear hb O I
      obtain ⟨b, o, rfl, hb, hc⟩ := R.at (k := 0) (by omega)
      have a0 := hc (0 * 2) (by omega)
      have a1 := hc (0 * 2 + 1) (by omega)
      rw [spotAt_x] at a0
      rw [spotAt_y] at a1
      simp only [Nat.zero_mul, Nat.add_zero, Nat.zero_add] at a0 a1
      have hx0 : boxN l 0 = ((((l.getD 0 (0, 0)).1, (l.getD 0 (0, 0)).2)), ((l.getD 0 (0, 0)).1, (l.getD 0 (0, 0)).2)) := rfl
      generalize (l.getD 0 (0, 0)).1 = u at *
      generalize (l.getD 0 (0, 0)).2 = v at *
      have Hx0 := Lib.hid hx0; clear hx0
      clear hc
      have Lx := fun (o1 : Obj) => (Blk.new w3 #[.int .i64 u, .int .i64 v] 27).bl (bl_alloc _ o1)
      have Ux := fun (o1 : Obj) => Blk.new (w3.alloc o1) #[.int .i64 u, .int .i64 v] 27
      simp only [World.size_alloc] at Ux
      have Sx := fun (o1 o2 : Obj) => (((Since.refl w3).alloc o1).alloc o2)
      go_upto_region 5 with (fail)
      go_cut [8, 9] (fun s8 s9 wx => ∃ b8 b9, s8 = .pointer (some ⟨b8, 0, none⟩) ∧ s9 = .pointer (some ⟨b9, 0, none⟩) ∧ b8 ≠ b9 ∧ Blk wx b8 #[.int .i64 u, .int .i64 v] 27 ∧ Blk wx b9 #[.int .i64 u, .int .i64 v] 27 ∧ Since w3 wx ∧ w3.heap.size ≤ b8 ∧ w3.heap.size ≤ b9)
      case first =>
        go_region
        all_goals
          go_wp2_with fail
          go_meet
          first
            | exact ⟨w3.heap.size, w3.heap.size + 1, rfl, rfl, by omega, (Lx _).bl (bl_drew _), (Ux _).bl (bl_drew _), (Sx _ _).bl (bl_drew _), by omega, by omega⟩
            | exact ⟨w3.heap.size + 1, w3.heap.size, rfl, rfl, by omega, (Ux _).bl (bl_drew _), (Lx _).bl (bl_drew _), (Sx _ _).bl (bl_drew _), by omega, by omega⟩
      case rest =>
      obtain ⟨b8, b9, rfl, rfl, h89, L0, U0, S0, hb8, hb9⟩ := hcut
      clear Lx Ux Sx a0 a1
      go_wp2_with fail
      go_loopw [36] (fun i wr => ∃ j : Nat, j ≤ l.length ∧ i = .int .i64 j ∧ Blk wr b8 #[.int .i64 (boxN l j).1.1, .int .i64 (boxN l j).1.2] 27 ∧ Blk wr b9 #[.int .i64 (boxN l j).2.1, .int .i64 (boxN l j).2.2] 27 ∧ Since w3 wr) (fun i _ => l.length - (intOf i).toNat)
      case atStart => exact ⟨0, Nat.zero_le _, rfl, by rw [Hx0.out]; exact L0, by rw [Hx0.out]; exact U0, S0⟩
      case round =>
        clear L0 U0 S0
        obtain ⟨j, hj, rfl, L, U, S1⟩ := hrel
        by_cases hlt : j < l.length
        · obtain ⟨b', o', hq, hb', hc⟩ := (R.below S1.below (Nat.le_refl _)).at (k := j * 2) (by omega)
          cases hq
          have hm : boxN l (j + 1) = ((min (boxN l j).1.1 (l.getD j (0, 0)).1, min (boxN l j).1.2 (l.getD j (0, 0)).2), (max (boxN l j).2.1 (l.getD j (0, 0)).1, max (boxN l j).2.2 (l.getD j (0, 0)).2)) := rfl
          have a0 := hc (j * 2) (by omega)
          have a1 := hc (j * 2 + 1) (by omega)
          rw [spotAt_x] at a0
          rw [spotAt_y, ← Nat.add_assoc] at a1
          have hj0 : (0 : Int) ≤ (j : Int) := Int.natCast_nonneg _
          have hj2 : (j : Int) < (l.length : Int) := by omega
          generalize (boxN l j).1.1 = m1 at *
          generalize (boxN l j).1.2 = m2 at *
          generalize (boxN l j).2.1 = m3 at *
          generalize (boxN l j).2.2 = m4 at *
          generalize (l.getD j (0, 0)).1 = u' at *
          generalize (l.getD j (0, 0)).2 = v' at *
          have hL8 := L.lt
          have hU9 := U.lt
          have hya := bl_alloc wr (.cells #[.int .i64 u', .int .i64 v'] 27)
          have E := Blk.new wr #[.int .i64 u', .int .i64 v'] 27
          have L1 := L.bl hya
          have U1 := U.bl hya
          have S2 := S1.bl hya
          have y0 := E.cell 0 rfl
          have y1 := E.cell 1 rfl
          have x0 := L1.cell 0 rfl
          have x1 := L1.cell 1 rfl
          have z0 := U1.cell 0 rfl
          have z1 := U1.cell 1 rfl
          have fx0 := L1.frozen 0
          have fx1 := L1.frozen 1
          have fz0 := U1.frozen 0
          have fz1 := U1.frozen 1
          have hEl := E.lt
          have hd1 := box_cmp m1 u'
          have hd2 := box_cmp m2 v'
          have hd3 := box_cmx m3 u'
          have hd4 := box_cmx m4 v'
          have Hm := Lib.hid hm; clear hm
          clear hc
          go_upto_region 9 with (fail)
          clear a0 a1
          generalize wr.alloc (.cells #[.int .i64 u', .int .i64 v'] 27) = wa at *
          have hEq : ∃ EE AA BB : World → Prop, EE = (fun w' => w'.cell? ⟨wr.heap.size, 0, none⟩ = some (.int .i64 u') ∧ w'.cell? ⟨wr.heap.size, 1, none⟩ = some (.int .i64 v')) ∧ AA = (fun w' => w'.cell? ⟨b8, 0, none⟩ = some (.int .i64 m1) ∧ w'.cell? ⟨b8, 1, none⟩ = some (.int .i64 m2)) ∧ BB = (fun w' => w'.cell? ⟨b9, 0, none⟩ = some (.int .i64 m3) ∧ w'.cell? ⟨b9, 1, none⟩ = some (.int .i64 m4)) := ⟨_, _, _, rfl, rfl, rfl⟩
          obtain ⟨EE, AA, BB, eEE, eAA, eBB⟩ := hEq
          have HS0 : TwoS 22 23 EE AA BB (Array.replicate 24 false) wa.drew := by subst eEE eAA eBB; exact ⟨⟨y0, y1⟩, fun _ => ⟨x0, x1⟩, fun _ => ⟨z0, z1⟩⟩
          have tE : ∀ w', EE w' → w'.cell? ⟨wr.heap.size, 0, none⟩ = some (.int .i64 u') ∧ w'.cell? ⟨wr.heap.size, 1, none⟩ = some (.int .i64 v') := by subst eEE; exact fun _ h => h
          have tA : ∀ w', AA w' → w'.cell? ⟨b8, 0, none⟩ = some (.int .i64 m1) ∧ w'.cell? ⟨b8, 1, none⟩ = some (.int .i64 m2) := by subst eAA; exact fun _ h => h
          have tB : ∀ w', BB w' → w'.cell? ⟨b9, 0, none⟩ = some (.int .i64 m3) ∧ w'.cell? ⟨b9, 1, none⟩ = some (.int .i64 m4) := by subst eBB; exact fun _ h => h
          have EEE := Lib.hid eEE; clear eEE
          have EAA := Lib.hid eAA; clear eAA
          have EBB := Lib.hid eBB; clear eBB
          have TE := Lib.hid tE; clear tE
          have TA := Lib.hid tA; clear tA
          have TB := Lib.hid tB; clear tB
          clear y0 y1 x0 x1 z0 z1 fx0 fx1 fz0 fz1 hd1 hd2 hd3 hd4
          refine wp_region_l (S := TwoS 22 23 EE AA BB) 24 rfl (by kernel_rfl) HS0 ?_
          clear HS0
          intro HC HS
          refine wpAnyL_take (i := 0) (v := ?_) rfl (by kernel_rfl) (by kernel_rfl) (by kernel_rfl) (fun _ _ _ h => h) (twoS_at (by decide) (by decide)) HC (Or.inl ⟨by rfl, ?_⟩) HS ?_
          rotate_left
          · intro wx hx
            clear hx
            go_simp
            try with_reducible rfl
          clear HC HS
          intro HC HS
          try simp only [Act.put, List.setIfInBounds_toArray, List.set_cons_zero, List.set_cons_succ]
          refine wpAnyL_take (i := 1) (v := ?_) rfl (by kernel_rfl) (by kernel_rfl) (by kernel_rfl) (fun _ _ _ h => h) (twoS_at (by decide) (by decide)) HC (Or.inl ⟨by rfl, ?_⟩) HS ?_
          rotate_left
          · intro wx hx; obtain ⟨e0, e1⟩ := TA.out _ (atI_a 4 (by kernel_rfl) hx)
            clear hx
            go_simp
            try with_reducible rfl
          clear HC HS
          intro HC HS
          try simp only [Act.put, List.setIfInBounds_toArray, List.set_cons_zero, List.set_cons_succ]
          refine wpAnyL_take (i := 2) (v := ?_) rfl (by kernel_rfl) (by kernel_rfl) (by kernel_rfl) (fun _ _ _ h => h) (twoS_at (by decide) (by decide)) HC (Or.inl ⟨by rfl, ?_⟩) HS ?_
          rotate_left
          · intro wx hx
            clear hx
            go_simp
            try with_reducible rfl
          clear HC HS
          intro HC HS
          try simp only [Act.put, List.setIfInBounds_toArray, List.set_cons_zero, List.set_cons_succ]
          refine wpAnyL_take (i := 3) (v := ?_) rfl (by kernel_rfl) (by kernel_rfl) (by kernel_rfl) (fun _ _ _ h => h) (twoS_at (by decide) (by decide)) HC (Or.inl ⟨by rfl, ?_⟩) HS ?_
          rotate_left
          · intro wx hx; obtain ⟨e0, e1⟩ := TE.out _ (atI_e hx)
            clear hx
            go_simp
            try with_reducible rfl
          clear HC HS
          intro HC HS
          try simp only [Act.put, List.setIfInBounds_toArray, List.set_cons_zero, List.set_cons_succ]
          refine wpAnyL_take (i := 4) (v := ?_) rfl (by kernel_rfl) (by kernel_rfl) (by kernel_rfl) (fun _ _ _ h => h) (twoS_at (by decide) (by decide)) HC (Or.inl ⟨by rfl, ?_⟩) HS ?_
          rotate_left
          · intro wx hx
            clear hx
            go_simp
            try with_reducible rfl
          clear HC HS
          intro HC HS
          try simp only [Act.put, List.setIfInBounds_toArray, List.set_cons_zero, List.set_cons_succ]
          refine wpAnyL_take (i := 5) (v := ?_) rfl (by kernel_rfl) (by kernel_rfl) (by kernel_rfl) (fun _ _ _ h => h) (twoS_at (by decide) (by decide)) HC (Or.inl ⟨by rfl, ?_⟩) HS ?_
          rotate_left
          · intro wx hx
            clear hx
            go_simp
            try with_reducible rfl
          clear HC HS
          intro HC HS
          try simp only [Act.put, List.setIfInBounds_toArray, List.set_cons_zero, List.set_cons_succ]
          refine wpAnyL_take (i := 6) (v := ?_) rfl (by kernel_rfl) (by kernel_rfl) (by kernel_rfl) (fun _ _ _ h => h) (twoS_at (by decide) (by decide)) HC (Or.inl ⟨by rfl, ?_⟩) HS ?_
          rotate_left
          · intro wx hx; obtain ⟨e0, e1⟩ := TA.out _ (atI_a 4 (by kernel_rfl) hx)
            clear hx
            go_simp
            try with_reducible rfl
          clear HC HS
          intro HC HS
          try simp only [Act.put, List.setIfInBounds_toArray, List.set_cons_zero, List.set_cons_succ]
          refine wpAnyL_take (i := 7) (v := ?_) rfl (by kernel_rfl) (by kernel_rfl) (by kernel_rfl) (fun _ _ _ h => h) (twoS_at (by decide) (by decide)) HC (Or.inl ⟨by rfl, ?_⟩) HS ?_
          rotate_left
          · intro wx hx
            clear hx
            go_simp
            try with_reducible rfl
          clear HC HS
          intro HC HS
          try simp only [Act.put, List.setIfInBounds_toArray, List.set_cons_zero, List.set_cons_succ]
          refine wpAnyL_take (i := 8) (v := ?_) rfl (by kernel_rfl) (by kernel_rfl) (by kernel_rfl) (fun _ _ _ h => h) (twoS_at (by decide) (by decide)) HC (Or.inl ⟨by rfl, ?_⟩) HS ?_
          rotate_left
          · intro wx hx; obtain ⟨e0, e1⟩ := TE.out _ (atI_e hx)
            clear hx
            go_simp
            try with_reducible rfl
          clear HC HS
          intro HC HS
          try simp only [Act.put, List.setIfInBounds_toArray, List.set_cons_zero, List.set_cons_succ]
          refine wpAnyL_take (i := 9) (v := ?_) rfl (by kernel_rfl) (by kernel_rfl) (by kernel_rfl) (fun _ _ _ h => h) (twoS_at (by decide) (by decide)) HC (Or.inl ⟨by rfl, ?_⟩) HS ?_
          rotate_left
          · intro wx hx
            clear hx
            go_simp
            try with_reducible rfl
          clear HC HS
          intro HC HS
          try simp only [Act.put, List.setIfInBounds_toArray, List.set_cons_zero, List.set_cons_succ]
          refine wpAnyL_take (i := 10) (v := ?_) rfl (by kernel_rfl) (by kernel_rfl) (by kernel_rfl) (fun _ _ _ h => h) (twoS_at (by decide) (by decide)) HC (Or.inl ⟨by rfl, ?_⟩) HS ?_
          rotate_left
          · intro wx hx
            clear hx
            go_simp
            try with_reducible rfl
          clear HC HS
          intro HC HS
          try simp only [Act.put, List.setIfInBounds_toArray, List.set_cons_zero, List.set_cons_succ]
          refine wpAnyL_take (i := 11) (v := ?_) rfl (by kernel_rfl) (by kernel_rfl) (by kernel_rfl) (fun _ _ _ h => h) (twoS_at (by decide) (by decide)) HC (Or.inl ⟨by rfl, ?_⟩) HS ?_
          rotate_left
          · intro wx hx
            clear hx
            go_simp
            try with_reducible rfl
          clear HC HS
          intro HC HS
          try simp only [Act.put, List.setIfInBounds_toArray, List.set_cons_zero, List.set_cons_succ]
          refine wpAnyL_take (i := 12) (v := ?_) rfl (by kernel_rfl) (by kernel_rfl) (by kernel_rfl) (fun _ _ _ h => h) (twoS_at (by decide) (by decide)) HC (Or.inl ⟨by rfl, ?_⟩) HS ?_
          rotate_left
          · intro wx hx; obtain ⟨e0, e1⟩ := TB.out _ (atI_b 4 (by kernel_rfl) hx)
            clear hx
            go_simp
            try with_reducible rfl
          clear HC HS
          intro HC HS
          try simp only [Act.put, List.setIfInBounds_toArray, List.set_cons_zero, List.set_cons_succ]
          refine wpAnyL_take (i := 13) (v := ?_) rfl (by kernel_rfl) (by kernel_rfl) (by kernel_rfl) (fun _ _ _ h => h) (twoS_at (by decide) (by decide)) HC (Or.inl ⟨by rfl, ?_⟩) HS ?_
          rotate_left
          · intro wx hx
            clear hx
            go_simp
            try with_reducible rfl
          clear HC HS
          intro HC HS
          try simp only [Act.put, List.setIfInBounds_toArray, List.set_cons_zero, List.set_cons_succ]
          refine wpAnyL_take (i := 14) (v := ?_) rfl (by kernel_rfl) (by kernel_rfl) (by kernel_rfl) (fun _ _ _ h => h) (twoS_at (by decide) (by decide)) HC (Or.inl ⟨by rfl, ?_⟩) HS ?_
          rotate_left
          · intro wx hx; obtain ⟨e0, e1⟩ := TE.out _ (atI_e hx)
            clear hx
            go_simp
            try with_reducible rfl
          clear HC HS
          intro HC HS
          try simp only [Act.put, List.setIfInBounds_toArray, List.set_cons_zero, List.set_cons_succ]
          refine wpAnyL_take (i := 15) (v := ?_) rfl (by kernel_rfl) (by kernel_rfl) (by kernel_rfl) (fun _ _ _ h => h) (twoS_at (by decide) (by decide)) HC (Or.inl ⟨by rfl, ?_⟩) HS ?_
          rotate_left
          · intro wx hx
            clear hx
            go_simp
            try with_reducible rfl
          clear HC HS
          intro HC HS
          try simp only [Act.put, List.setIfInBounds_toArray, List.set_cons_zero, List.set_cons_succ]
          refine wpAnyL_take (i := 16) (v := ?_) rfl (by kernel_rfl) (by kernel_rfl) (by kernel_rfl) (fun _ _ _ h => h) (twoS_at (by decide) (by decide)) HC (Or.inl ⟨by rfl, ?_⟩) HS ?_
          rotate_left
          · intro wx hx
            clear hx
            go_simp
            try with_reducible rfl
          clear HC HS
          intro HC HS
          try simp only [Act.put, List.setIfInBounds_toArray, List.set_cons_zero, List.set_cons_succ]
          refine wpAnyL_take (i := 17) (v := ?_) rfl (by kernel_rfl) (by kernel_rfl) (by kernel_rfl) (fun _ _ _ h => h) (twoS_at (by decide) (by decide)) HC (Or.inl ⟨by rfl, ?_⟩) HS ?_
          rotate_left
          · intro wx hx; obtain ⟨e0, e1⟩ := TB.out _ (atI_b 4 (by kernel_rfl) hx)
            clear hx
            go_simp
            try with_reducible rfl
          clear HC HS
          intro HC HS
          try simp only [Act.put, List.setIfInBounds_toArray, List.set_cons_zero, List.set_cons_succ]
          refine wpAnyL_take (i := 18) (v := ?_) rfl (by kernel_rfl) (by kernel_rfl) (by kernel_rfl) (fun _ _ _ h => h) (twoS_at (by decide) (by decide)) HC (Or.inl ⟨by rfl, ?_⟩) HS ?_
          rotate_left
          · intro wx hx
            clear hx
            go_simp
            try with_reducible rfl
          clear HC HS
          intro HC HS
          try simp only [Act.put, List.setIfInBounds_toArray, List.set_cons_zero, List.set_cons_succ]
          refine wpAnyL_take (i := 19) (v := ?_) rfl (by kernel_rfl) (by kernel_rfl) (by kernel_rfl) (fun _ _ _ h => h) (twoS_at (by decide) (by decide)) HC (Or.inl ⟨by rfl, ?_⟩) HS ?_
          rotate_left
          · intro wx hx; obtain ⟨e0, e1⟩ := TE.out _ (atI_e hx)
            clear hx
            go_simp
            try with_reducible rfl
          clear HC HS
          intro HC HS
          try simp only [Act.put, List.setIfInBounds_toArray, List.set_cons_zero, List.set_cons_succ]
          refine wpAnyL_take (i := 20) (v := ?_) rfl (by kernel_rfl) (by kernel_rfl) (by kernel_rfl) (fun _ _ _ h => h) (twoS_at (by decide) (by decide)) HC (Or.inl ⟨by rfl, ?_⟩) HS ?_
          rotate_left
          · intro wx hx
            clear hx
            go_simp
            try with_reducible rfl
          clear HC HS
          intro HC HS
          try simp only [Act.put, List.setIfInBounds_toArray, List.set_cons_zero, List.set_cons_succ]
          refine wpAnyL_take (i := 21) (v := ?_) rfl (by kernel_rfl) (by kernel_rfl) (by kernel_rfl) (fun _ _ _ h => h) (twoS_at (by decide) (by decide)) HC (Or.inl ⟨by rfl, ?_⟩) HS ?_
          rotate_left
          · intro wx hx
            clear hx
            go_simp
            try with_reducible rfl
          clear HC HS
          intro HC HS
          try simp only [Act.put, List.setIfInBounds_toArray, List.set_cons_zero, List.set_cons_succ]
          have x0 := L1.cell 0 rfl
          have x1 := L1.cell 1 rfl
          have z0 := U1.cell 0 rfl
          have z1 := U1.cell 1 rfl
          have fx0 := L1.frozen 0
          have fx1 := L1.frozen 1
          have fz0 := U1.frozen 0
          have fz1 := U1.frozen 1
          have q1 : (if u' < m1 then u' else m1) = min m1 u' := by split <;> omega
          have q2 : (if v' < m2 then v' else m2) = min m2 v' := by split <;> omega
          have q3 : (if m3 < u' then u' else m3) = max m3 u' := by split <;> omega
          have q4 : (if m4 < v' then v' else m4) = max m4 v' := by split <;> omega
          rw [q1, q2, q3, q4]
          clear q1 q2 q3 q4
          obtain ⟨n1, v1⟩ : ∃ n, min m1 u' = n := ⟨_, rfl⟩
          obtain ⟨n2, v2⟩ : ∃ n, min m2 v' = n := ⟨_, rfl⟩
          obtain ⟨n3, v3⟩ : ∃ n, max m3 u' = n := ⟨_, rfl⟩
          obtain ⟨n4, v4⟩ : ∃ n, max m4 v' = n := ⟨_, rfl⟩
          have hm9 := Hm.out
          rw [v1, v2, v3, v4] at hm9
          rw [v1, v2, v3, v4]
          have Hm9 := Lib.hid hm9; clear hm9
          clear v1 v2 v3 v4
          have hE8 : wr.heap.size ≠ b8 := by omega
          have hE9 : wr.heap.size ≠ b9 := by omega
          have E2 := ((E.other (a := ⟨b8, 0, none⟩) hE8 (.int .i64 n1)).other (a := ⟨b8, 1, none⟩) hE8 (.int .i64 n2)).bl (bl_drew _)
          have U2 := ((U1.other (a := ⟨b8, 0, none⟩) (Ne.symm h89) (.int .i64 n1)).other (a := ⟨b8, 1, none⟩) (Ne.symm h89) (.int .i64 n2)).bl (bl_drew _)
          have E3 := ((((E.other (a := ⟨b8, 0, none⟩) hE8 (.int .i64 n1)).other (a := ⟨b8, 1, none⟩) hE8 (.int .i64 n2)).other (a := ⟨b9, 0, none⟩) hE9 (.int .i64 n3)).other (a := ⟨b9, 1, none⟩) hE9 (.int .i64 n4)).bl (bl_drew _)
          have HS2 : EE (((wa.setCell ⟨b8, 0, none⟩ (.int .i64 n1)).setCell ⟨b8, 1, none⟩ (.int .i64 n2)).drew) ∧ BB (((wa.setCell ⟨b8, 0, none⟩ (.int .i64 n1)).setCell ⟨b8, 1, none⟩ (.int .i64 n2)).drew) := by
            have eEE := EEE.out
            have eBB := EBB.out
            subst eEE eBB
            exact ⟨⟨E2.cell 0 rfl, E2.cell 1 rfl⟩, U2.cell 0 rfl, U2.cell 1 rfl⟩
          obtain ⟨s1, s2⟩ := HS2
          refine wpAnyL_one (i := 22) (by kernel_rfl) (wpOp_at rfl (by rfl) (fun K hK => ?_))
          go_simp
          refine hK _ _ ⟨⟨s1, fun h => absurd h (by decide), fun _ => s2⟩, ?_⟩
          clear hK K HC HS x0 x1 z0 z1 fx0 fx1 fz0 fz1
          have z0 := U1.cell 0 rfl
          have z1 := U1.cell 1 rfl
          have fz0 := U1.frozen 0
          have fz1 := U1.frozen 1
          refine wpAnyL_one (i := 23) (by kernel_rfl) (wpOp_at rfl (by rfl) (fun K hK => ?_))
          go_simp
          refine hK _ _ ⟨⟨by rw [EEE.out]; exact ⟨E3.cell 0 rfl, E3.cell 1 rfl⟩, fun h => absurd h (by decide), fun h => absurd h (by decide)⟩, wpAnyL_done (by kernel_rfl) ?_⟩
          clear hK K z0 z1 fz0 fz1 s1 s2 E3 U2 E2
          have L3 := ((((L1.set 0 (.int .i64 n1)).set 1 (.int .i64 n2)).other (a := ⟨b9, 0, none⟩) h89 (.int .i64 n3)).other (a := ⟨b9, 1, none⟩) h89 (.int .i64 n4)).bl (bl_drew _)
          have U3 := ((((U1.other (a := ⟨b8, 0, none⟩) (Ne.symm h89) (.int .i64 n1)).other (a := ⟨b8, 1, none⟩) (Ne.symm h89) (.int .i64 n2)).set 0 (.int .i64 n3)).set 1 (.int .i64 n4)).bl (bl_drew _)
          have S3 : Since w3 _ := ((((S2.setc (p := ⟨b8, 0, none⟩) (by omega) (.int .i64 n1)).setc (p := ⟨b8, 1, none⟩) (by omega) (.int .i64 n2)).setc (p := ⟨b9, 0, none⟩) (by omega) (.int .i64 n3)).setc (p := ⟨b9, 1, none⟩) (by omega) (.int .i64 n4)).bl (bl_drew _)
          clear L1 U1 S2
          go_wp2
          go_roundw
          case rel => exact ⟨j + 1, by omega, by go_num, by rw [Hm9.out]; exact L3, by rw [Hm9.out]; exact U3, S3⟩
          case measure => simp [intOf]; omega
        · obtain rfl : j = l.length := by omega
          have A1 := A.bl S1.below
          have B1 := B.bl S1.below
          have S2 := S.bl S1.below
          obtain ⟨m1, em1⟩ : ∃ m, (boxN l l.length).1.1 = m := ⟨_, rfl⟩
          obtain ⟨m2, em2⟩ : ∃ m, (boxN l l.length).1.2 = m := ⟨_, rfl⟩
          obtain ⟨m3, em3⟩ : ∃ m, (boxN l l.length).2.1 = m := ⟨_, rfl⟩
          obtain ⟨m4, em4⟩ : ∃ m, (boxN l l.length).2.2 = m := ⟨_, rfl⟩
          rw [em1, em2] at L
          rw [em3, em4] at U
          have hlA := A1.lt
          have hlB := B1.lt
          have x0 := L.cell 0 rfl
          have x1 := L.cell 1 rfl
          have z0 := U.cell 0 rfl
          have z1 := U.cell 1 rfl
          obtain ⟨e0, f0, e1, f1, t0, t1⟩ := A1.two (.int .i64 m1) (.int .i64 m2)
          have B2 := (B1.other (a := ⟨w.heap.size + 1, 0, none⟩) (by simp) (.int .i64 m1)).other (a := ⟨w.heap.size + 1, 1, none⟩) (by simp) (.int .i64 m2)
          have A2 := ((A1.set2 (.int .i64 m1) (.int .i64 m2)).other (a := ⟨w.heap.size + 1 + 1, 0, none⟩) (by simp) (.int .i64 m3)).other (a := ⟨w.heap.size + 1 + 1, 1, none⟩) (by simp) (.int .i64 m4)
          obtain ⟨e2, f2, e3, f3, t2, t3⟩ := B2.two (.int .i64 m3) (.int .i64 m4)
          have t4 := A2.cell 0 rfl
          have t5 := A2.cell 1 rfl
          have g0 := B1.cell 0 rfl
          have g1 := B1.cell 1 rfl
          have g2 := B1.frozen 0
          have g3 := B1.frozen 1
          have S4 := ((S2.set2 (b := w.heap.size + 1) (by omega) (.int .i64 m1) (.int .i64 m2)).set2 (b := w.heap.size + 1 + 1) (by omega) (.int .i64 m3) (.int .i64 m4)).bl (bl_drew _)
          have Em1 := Lib.hid em1; clear em1
          have Em2 := Lib.hid em2; clear em2
          have Em3 := Lib.hid em3; clear em3
          have Em4 := Lib.hid em4; clear em4
          go_wp2_with fail
          go_region
          go_wp2_with fail
          refine bodyPost_ret (v := .tuple #[.agg #[.int .i64 m1, .int .i64 m2], .agg #[.int .i64 m3, .int .i64 m4], .bool true]) (by simp [results, Try.results17, go_sem, t2, t3, t4, t5]) rfl ⟨by rw [Hv.out, Hv2.out, Em1.out, Em2.out, Em3.out, Em4.out], S4.below⟩
end Go.Proofs.Ytakoklldmdbphaa
