/- Contracts of the program's rowsOk and ValidGrey. -/
import Derived.Test.YtedgjcmimdblgaaGrey
set_option linter.unusedVariables false
set_option linter.unusedSimpArgs false
namespace Go.Proofs.Ytedgjcmimdblgaa
open Go.RowKit

set_option maxHeartbeats 4000000 in
theorem indexIntsG_any (kb : FuncId) (capb : Array Value) (p : Option Addr) (c : Nat) (l : List Int) (q : Int → Bool) (w : World) (hn : l.length ≤ 1048576) (hr : Rd w p l.length (intAt l))
    (hk : ∀ args w, (callFunc kb args).run Try.prog w = .ok (.enter kb args) w)
    (hcall : ∀ s w', s ∈ l → Below w.heap.size w w' → Calls Try.prog kb (#[.int .i64 s] ++ capb) w' fun e w'' => e = .returned (.bool (q s)) ∧ Below w'.heap.size w' w'') :
    Calls Try.prog 47 #[.slice p l.length c, .func (.func kb) #[] capb] w fun e w' => ∃ z : Int, e = .returned (.int .i64 z) ∧ decide (0 ≤ z) = l.any q ∧ Below w.heap.size w w' := by
  go_enter Try.func47, Try.ntmps47
  go_wp2
  go_loopw [8] (fun i wr => ∃ j : Nat, j ≤ l.length ∧ i = .int .i64 j ∧ (l.take j).any q = false ∧ Since w wr) (fun i _ => l.length - (intOf i).toNat)
  case atStart => exact ⟨0, Nat.zero_le _, rfl, by simp, Since.refl w⟩
  case round =>
    obtain ⟨j, hj, rfl, hno, S⟩ := hrel
    by_cases hlt : j < l.length
    · obtain ⟨b, o, rfl, hb, hc⟩ := (hr.below S.below (Nat.le_refl _)).at (k := j) hlt
      have a0 := hc j hlt
      rw [intAt] at a0
      have hj0 : (0 : Int) ≤ (j : Int) := Int.natCast_nonneg _
      have hj1 : (j : Int) < (l.length : Int) := by omega
      have hcl := hcall (l.getD j 0) wr (getD_memG hlt) S.below
      have hsu : (l.take (j + 1)).any q = ((l.take j).any q || q (l.getD j 0)) := by rw [ints_takeG hlt]; simp [List.any_append]
      have hyes : q (l.getD j 0) = true → l.any q = true := fun h => List.any_eq_true.2 ⟨_, getD_memG hlt, h⟩
      rw [hno] at hsu
      generalize l.getD j 0 = u at *
      cases hq : q u
      · rw [hq] at hcl hsu
        have Hcl := Lib.hid hcl; clear hcl
        have Hsu := Lib.hid hsu; clear hsu
        have Hno := Lib.hid hno; clear hno
        have Hq := Lib.hid hq; clear hq
        clear hc hr hcall hyes
        go_wp2_with fail
        with_reducible (refine Hcl.out.mono ?_)
        rintro e w1 ⟨rfl, hb1⟩
        have S1 := S.bl hb1
        clear hb1 S a0
        go_wp2
        go_roundw
        case rel => exact ⟨j + 1, by omega, by go_num, Hsu.out, S1⟩
        case measure => simp [intOf]; omega
      · rw [hq] at hcl
        have hy := hyes hq
        have Hcl := Lib.hid hcl; clear hcl
        have Hsu := Lib.hid hsu; clear hsu
        have Hno := Lib.hid hno; clear hno
        have Hq := Lib.hid hq; clear hq
        have Hy := Lib.hid hy; clear hy
        clear hc hr hcall hyes
        go_wp2_with fail
        with_reducible (refine Hcl.out.mono ?_)
        rintro e w1 ⟨rfl, hb1⟩
        have S1 := S.bl hb1
        clear hb1 S a0
        go_wp2
        go_ret
        exact ⟨_, rfl, by rw [Hy.out]; simp, S1.below⟩
    · obtain rfl : j = l.length := by omega
      rw [List.take_of_length_le (Nat.le_refl _)] at hno
      have Hno := Lib.hid hno; clear hno
      go_wp2
      go_ret
      exact ⟨_, rfl, by rw [Hno.out]; rfl, S.below⟩
set_option maxHeartbeats 4000000 in
theorem containsIntsG_any (kb : FuncId) (capb : Array Value) (p : Option Addr) (c : Nat) (l : List Int) (q : Int → Bool) (w : World) (hn : l.length ≤ 1048576) (hr : Rd w p l.length (intAt l))
    (hk : ∀ args w, (callFunc kb args).run Try.prog w = .ok (.enter kb args) w)
    (hcall : ∀ s w', s ∈ l → Below w.heap.size w w' → Calls Try.prog kb (#[.int .i64 s] ++ capb) w' fun e w'' => e = .returned (.bool (q s)) ∧ Below w'.heap.size w' w'') :
    Calls Try.prog 33 #[.slice p l.length c, .func (.func kb) #[] capb] w fun e w' => e = .returned (.bool (l.any q)) ∧ Below w.heap.size w w' := by
  have c0 := indexIntsG_any kb capb p c l q w hn hr hk hcall
  have C0 := Lib.hid c0; clear c0
  clear hcall hr
  go_enter Try.func33, Try.ntmps33
  go_wp2_with fail
  with_reducible (refine C0.out.mono ?_)
  rintro e w1 ⟨z, rfl, hz, hb⟩
  have Hz := Lib.hid hz; clear hz
  go_wp2
  go_ret
  exact ⟨ret_bool Hz.out, hb⟩
set_option maxHeartbeats 4000000 in
theorem indexLists_any (kb : FuncId) (capb : Array Value) (p : Option Addr) (c : Nat) (L : List (List Int)) (q : List Int → Bool) (w : World) (hn : L.length ≤ 1048576) (hr : RdSS w p L)
    (hk : ∀ args w, (callFunc kb args).run Try.prog w = .ok (.enter kb args) w)
    (hcall : ∀ (s : List Int) (q' : Option Addr) (d' : Nat) w', s ∈ L → Rd w' q' s.length (intAt s) → Below w.heap.size w w' → Calls Try.prog kb (#[.slice q' s.length d'] ++ capb) w' fun e w'' => e = .returned (.bool (q s)) ∧ Below w'.heap.size w' w'') :
    Calls Try.prog 46 #[.slice p L.length c, .func (.func kb) #[] capb] w fun e w' => ∃ z : Int, e = .returned (.int .i64 z) ∧ decide (0 ≤ z) = L.any q ∧ Below w.heap.size w w' := by
  go_enter Try.func46, Try.ntmps46
  go_wp2
  go_loopw [8] (fun i wr => ∃ j : Nat, j ≤ L.length ∧ i = .int .i64 j ∧ (L.take j).any q = false ∧ Since w wr) (fun i _ => L.length - (intOf i).toNat)
  case atStart => exact ⟨0, Nat.zero_le _, rfl, by simp, Since.refl w⟩
  case round =>
    obtain ⟨j, hj, rfl, hno, S⟩ := hrel
    by_cases hlt : j < L.length
    · obtain ⟨vs, hrv, hri⟩ := hr.bl S.below
      obtain ⟨b, o, rfl, hb, hc⟩ := hrv.at (k := j) hlt
      obtain ⟨q1, d1, e1, r1⟩ := hri j hlt
      have a0 := hc j hlt
      rw [e1] at a0
      have hj0 : (0 : Int) ≤ (j : Int) := Int.natCast_nonneg _
      have hj1 : (j : Int) < (L.length : Int) := by omega
      have hcl := hcall (L.getD j []) q1 d1 wr (getD_memL hlt) r1 S.below
      have hsu : (L.take (j + 1)).any q = ((L.take j).any q || q (L.getD j [])) := by rw [lists_take hlt]; simp [List.any_append]
      have hyes : q (L.getD j []) = true → L.any q = true := fun h => List.any_eq_true.2 ⟨_, getD_memL hlt, h⟩
      rw [hno] at hsu
      clear r1 e1
      generalize L.getD j [] = u at *
      cases hq : q u
      · rw [hq] at hcl hsu
        have Hcl := Lib.hid hcl; clear hcl
        have Hsu := Lib.hid hsu; clear hsu
        have Hno := Lib.hid hno; clear hno
        have Hq := Lib.hid hq; clear hq
        clear hc hr hcall hyes hri hrv
        go_wp2_with fail
        with_reducible (refine Hcl.out.mono ?_)
        rintro e w1 ⟨rfl, hb1⟩
        have S1 := S.bl hb1
        clear hb1 S a0
        go_wp2
        go_roundw
        case rel => exact ⟨j + 1, by omega, by go_num, Hsu.out, S1⟩
        case measure => simp [intOf]; omega
      · rw [hq] at hcl
        have hy := hyes hq
        have Hcl := Lib.hid hcl; clear hcl
        have Hsu := Lib.hid hsu; clear hsu
        have Hno := Lib.hid hno; clear hno
        have Hq := Lib.hid hq; clear hq
        have Hy := Lib.hid hy; clear hy
        clear hc hr hcall hyes hri hrv
        go_wp2_with fail
        with_reducible (refine Hcl.out.mono ?_)
        rintro e w1 ⟨rfl, hb1⟩
        have S1 := S.bl hb1
        clear hb1 S a0
        go_wp2
        go_ret
        exact ⟨_, rfl, by rw [Hy.out]; simp, S1.below⟩
    · obtain rfl : j = L.length := by omega
      rw [List.take_of_length_le (Nat.le_refl _)] at hno
      have Hno := Lib.hid hno; clear hno
      go_wp2
      go_ret
      exact ⟨_, rfl, by rw [Hno.out]; rfl, S.below⟩
set_option maxHeartbeats 4000000 in
theorem containsLists_any (kb : FuncId) (capb : Array Value) (p : Option Addr) (c : Nat) (L : List (List Int)) (q : List Int → Bool) (w : World) (hn : L.length ≤ 1048576) (hr : RdSS w p L)
    (hk : ∀ args w, (callFunc kb args).run Try.prog w = .ok (.enter kb args) w)
    (hcall : ∀ (s : List Int) (q' : Option Addr) (d' : Nat) w', s ∈ L → Rd w' q' s.length (intAt s) → Below w.heap.size w w' → Calls Try.prog kb (#[.slice q' s.length d'] ++ capb) w' fun e w'' => e = .returned (.bool (q s)) ∧ Below w'.heap.size w' w'') :
    Calls Try.prog 31 #[.slice p L.length c, .func (.func kb) #[] capb] w fun e w' => e = .returned (.bool (L.any q)) ∧ Below w.heap.size w w' := by
  have c0 := indexLists_any kb capb p c L q w hn hr hk hcall
  have C0 := Lib.hid c0; clear c0
  clear hcall hr
  go_enter Try.func31, Try.ntmps31
  go_wp2_with fail
  with_reducible (refine C0.out.mono ?_)
  rintro e w1 ⟨z, rfl, hz, hb⟩
  have Hz := Lib.hid hz; clear hz
  go_wp2
  go_ret
  exact ⟨ret_bool Hz.out, hb⟩
theorem callFunc_rows1 : ∀ args w, (callFunc 32 args).run Try.prog w = .ok (.enter 32 args) w := fun args w => by kernel_rfl
theorem callFunc_rows11 : ∀ args w, (callFunc 34 args).run Try.prog w = .ok (.enter 34 args) w := fun args w => by kernel_rfl
set_option maxHeartbeats 4000000 in
theorem rows11_any (z most : Int) (mb : Nat) (t : TypeId) (w : World) (M : Box w mb (.int .i64 most) t) :
    Calls Try.prog 34 #[.int .i64 z, .pointer (some ⟨mb, 0, none⟩)] w fun e w' => e = .returned (.bool (!inB z 0 most)) ∧ Below w.heap.size w w' := by
  have m0 := M.cell
  have ci := in_any z 0 most w
  generalize inB z 0 most = v at *
  have Ci := Lib.hid ci; clear ci
  clear M
  go_enter Try.func34, Try.ntmps34
  go_wp2_with fail
  with_reducible (refine Ci.out.mono ?_)
  rintro e w1 ⟨rfl, rfl⟩
  go_wp2
  go_ret
  exact ⟨rfl, Below.refl _ _⟩
set_option maxHeartbeats 4000000 in
theorem rows1_any (n c : Nat) (q0 : Option Addr) (W c0 b o ab mb : Nat) (t1 t2 : TypeId) (q' : Option Addr) (d' : Nat) (row : List Int) (most : Int) (w : World) (hn : row.length ≤ 1048576) (hpos : 0 < n) (hW : W ≤ 1048576)
    (A : Box w ab (.slice (some ⟨b, o, none⟩) n c) t1) (M : Box w mb (.int .i64 most) t2) (x0 : w.cell? ⟨b, o, none⟩ = some (.slice q0 W c0)) (hr : Rd w q' row.length (intAt row)) :
    Calls Try.prog 32 #[.slice q' row.length d', .pointer (some ⟨ab, 0, none⟩), .pointer (some ⟨mb, 0, none⟩)] w fun e w' => e = .returned (.bool (!okRowG W most row)) ∧ Below w.heap.size w w' := by
  have a0 := A.cell
  have hn0 : (0 : Int) < (n : Int) := by omega
  by_cases hlen : row.length = W
  · subst hlen
    have hv : (!okRowG row.length most row) = row.any (fun z => !inB z 0 most) := by
      rw [okRowG, decide_eq_true rfl, Bool.true_and, List.all_eq_not_any_not, Bool.not_not]
    rw [hv]
    have cc := containsIntsG_any 34 #[.pointer (some ⟨mb, 0, none⟩)] q' d' row (fun z => !inB z 0 most) w hn hr callFunc_rows11 (fun s w' _ hb => rows11_any s most mb t2 w' (M.bl hb))
    generalize row.any (fun z => !inB z 0 most) = v at *
    have Cc := Lib.hid cc; clear cc
    have Hv := Lib.hid hv; clear hv
    clear A M hr
    go_enter Try.func32, Try.ntmps32
    go_wp2_with fail
    with_reducible (refine Cc.out.mono ?_)
    rintro e w1 ⟨rfl, hb⟩
    go_wp2
    go_ret
    exact ⟨rfl, hb⟩
  · have hv : (!okRowG W most row) = true := by rw [okRowG, decide_eq_false hlen]; rfl
    rw [hv]
    have hlen2 : ¬ ((row.length : Nat) : Int) = (W : Int) := by omega
    have Hv := Lib.hid hv; clear hv
    clear A M hr
    go_enter Try.func32, Try.ntmps32
    go_wp2
    go_ret
    exact ⟨rfl, Below.refl _ _⟩
set_option maxRecDepth 100000 in
set_option maxHeartbeats 4000000 in
theorem rowsOk_any (p : Option Addr) (c : Nat) (L : List (List Int)) (most : Int) (w : World) (hn : L.length ≤ 1048576) (hi : ∀ l ∈ L, l.length ≤ 1048576) (hr : RdSS w p L) :
    Calls Try.prog 17 #[.slice p L.length c, .int .i64 most] w fun e w' => e = .returned (.bool (okG L most)) ∧ Below w.heap.size w w' := by
  have hy1 := bl_alloc w (.cells #[.slice p L.length c] 22)
  have hy2 := bl_alloc (w.alloc (.cells #[.slice p L.length c] 22)) (.cells #[.int .i64 most] 2)
  have S := ((Since.refl w).bl hy1).bl hy2
  have R := (hr.bl hy1).bl hy2
  have A := (Box.new w (.slice p L.length c) 22).bl hy2
  have M := Box.new (w.alloc (.cells #[.slice p L.length c] 22)) (.int .i64 most) 2
  simp only [World.size_alloc] at M
  have a0 := A.cell
  by_cases h0 : L.length = 0
  · have hv : okG L most = false := by simp [okG, inB, h0]
    rw [hv]
    have hl0 : ((L.length : Int) == 0) = true := by rw [h0]; rfl
    have Hv := Lib.hid hv; clear hv
    have H0 := Lib.hid h0; clear h0
    clear R A M hr hy1 hy2
    go_enter Try.func17, Try.ntmps17
    go_wp2
    go_quiet (fail)
    go_wp2
    go_ret
    exact ⟨rfl, (S.bl (bl_drewN _ _)).below⟩
  · obtain ⟨vs, hrv, hri⟩ := R
    obtain ⟨b, o, rfl, hb, hc⟩ := hrv.at (k := 0) (by omega)
    obtain ⟨q0, c0, e0, r0⟩ := hri 0 (by omega)
    have x0 := hc 0 (by omega)
    rw [e0, Nat.add_zero] at x0
    have hW := hi _ (getD_memL (l := L) (k := 0) (by omega))
    have R := (hr.bl hy1).bl hy2
    obtain ⟨W, eW⟩ : ∃ W, (L.getD 0 []).length = W := ⟨_, rfl⟩
    rw [eW] at x0 hW
    have hl0 : ((L.length : Int) == 0) = false := by rw [beq_eq_false_iff_ne]; omega
    have hl1 : (0 : Int) < (L.length : Int) := by omega
    have hl2 : 0 < L.length := by omega
    have hG : okG L most = (sizeOkB (W : Int) (L.length : Int) && L.all (okRowG W most)) := by
      simp only [okG, sizeOkB, eW]
      cases inB (L.length : Int) 1 16 <;> simp
    rw [hG]
    have cs := fun w => (sizeOk_any (W : Int) (L.length : Int) w).mono (fun e w' q => (⟨q.1, q.2.symm⟩ : e = .returned (.bool (sizeOkB (W : Int) (L.length : Int))) ∧ w' = w))
    cases hs : sizeOkB (W : Int) (L.length : Int)
    · simp only [hs] at cs
      have Cs := Lib.hid cs; clear cs
      have Hs := Lib.hid hs; clear hs
      have EW := Lib.hid eW; clear eW
      have HG := Lib.hid hG; clear hG
      have Hri := Lib.hid hri; clear hri
      have Hrv := Lib.hid hrv; clear hrv
      have Hc := Lib.hid hc; clear hc
      have E0 := Lib.hid e0; clear e0
      have Hi := Lib.hid hi; clear hi
      clear R A M hr hy1 hy2 r0
      go_enter Try.func17, Try.ntmps17
      go_wp2
      go_quiet ((go_at_call 30; with_reducible (exact Calls.quiet_of_same (Cs.out _))))
      go_wp2
      go_ret
      exact ⟨rfl, (S.bl (bl_drewN _ _)).below⟩
    · simp only [hs] at cs
      have cc := fun w' (hA : Box w' w.heap.size (.slice (some ⟨b, o, none⟩) L.length c) 22) (hM : Box w' (w.heap.size + 1) (.int .i64 most) 2) (hR : RdSS w' (some ⟨b, o, none⟩) L) (hx : w'.cell? ⟨b, o, none⟩ = some (.slice q0 W c0)) =>
        containsLists_any 32 #[.pointer (some ⟨w.heap.size, 0, none⟩), .pointer (some ⟨w.heap.size + 1, 0, none⟩)] (some ⟨b, o, none⟩) c L (fun l => !okRowG W most l) w' hn hR callFunc_rows1
          (fun s q' d' w'' hs hrd hb2 => rows1_any L.length c q0 W c0 b o _ _ _ _ q' d' s most w'' (hi s hs) (by omega) hW (hA.bl hb2) (hM.bl hb2) ((hb2.cell (p := ⟨b, o, none⟩) (World.block_lt_of_cell? _ _ hx)).trans hx) hrd)
      have he : (!L.any fun l => !okRowG W most l) = L.all (okRowG W most) := by simp [List.all_eq_not_any_not]
      have he2 : (true && L.all (okRowG W most)) = !(L.any fun l => !okRowG W most l) := by rw [he]; rfl
      rw [he2]
      generalize (L.any fun l => !okRowG W most l) = v at *
      have hk := fun n => (⟨A.bl (bl_drewN _ n), M.bl (bl_drewN _ n), R.bl (bl_drewN _ n), ((bl_drewN _ n).cell (p := ⟨b, o, none⟩) (World.block_lt_of_cell? _ _ x0)).trans x0, S.bl (bl_drewN _ n)⟩ : Box _ _ _ _ ∧ Box _ _ _ _ ∧ RdSS _ _ _ ∧ World.cell? _ _ = _ ∧ Since w _)
      have Cs := Lib.hid cs; clear cs
      have Hs := Lib.hid hs; clear hs
      have EW := Lib.hid eW; clear eW
      have HG := Lib.hid hG; clear hG
      have Hri := Lib.hid hri; clear hri
      have Hrv := Lib.hid hrv; clear hrv
      have Hc := Lib.hid hc; clear hc
      have E0 := Lib.hid e0; clear e0
      have Hi := Lib.hid hi; clear hi
      have Cc := Lib.hid cc; clear cc
      have He := Lib.hid he; clear he
      have He2 := Lib.hid he2; clear he2
      have Hk := Lib.hid hk; clear hk
      clear R A M hr hy1 hy2 r0
      go_enter Try.func17, Try.ntmps17
      go_wp2
      go_quiet ((go_at_call 30; with_reducible (exact Calls.quiet_of_same (Cs.out _))))
      generalize hwd : World.drewN _ _ = wd
      have hk2 : Box wd w.heap.size (.slice (some ⟨b, o, none⟩) L.length c) 22 ∧ Box wd (w.heap.size + 1) (.int .i64 most) 2 ∧ RdSS wd (some ⟨b, o, none⟩) L ∧ wd.cell? ⟨b, o, none⟩ = some (.slice q0 W c0) ∧ Since w wd := by rw [← hwd]; exact Hk.out _
      obtain ⟨A, M, R, hx, S2⟩ := hk2
      have cd := Cc.out wd A M R hx
      have a0 := A.cell
      have Cd := Lib.hid cd; clear cd
      clear Hk Cc M R hx S A hwd Cs
      go_wp2_with fail
      with_reducible (refine Cd.out.mono ?_)
      rintro e w3 ⟨rfl, hb3⟩
      replace S2 := S2.bl hb3
      clear hb3 a0
      go_wp2
      go_ret
      exact ⟨rfl, S2.below⟩
set_option maxHeartbeats 400000 in
theorem validGrey_any (p : Option Addr) (c : Nat) (L : List (List Int)) (w : World) (hn : L.length ≤ 1048576) (hi : ∀ l ∈ L, l.length ≤ 1048576) (hr : RdSS w p L) :
    Calls Try.prog 8 #[.agg #[.slice p L.length c]] w fun e w' => e = .returned (.bool (okG L 99)) ∧ Below w.heap.size w w' := by
  have hy := bl_alloc w (.cells #[.slice p L.length c] 27)
  have B := (Box.new w (.slice p L.length c) 27).cell
  have ct := rowsOk_any p c L 99 _ hn hi (hr.bl hy)
  generalize okG L 99 = z at *
  have Ct := Lib.hid ct; clear ct
  clear hr hi
  go_enter Try.func8, Try.ntmps8
  go_wp2_with fail
  with_reducible (refine Ct.out.mono ?_)
  rintro e w1 ⟨rfl, hb1⟩
  have hb2 := bl_trans hy hb1
  go_wp2
  go_ret
  exact ⟨rfl, hb2⟩
end Go.Proofs.Ytedgjcmimdblgaa
