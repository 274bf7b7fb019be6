/- Contracts of the program's has, IndexFunc over leaves, LeafAt. -/
import Derived.Test.YtnenogpagkepfaaTreeQ2
set_option linter.unusedVariables false
set_option linter.unusedSimpArgs false
namespace Go.Proofs.Ytnenogpagkepfaa
open Go.RowKit

/-- A leaf's value. -/
def leafA (q : QLeaf) : Value := .agg #[.int .i64 q.x, .int .i64 q.y, .int .i64 q.side, .bool q.black, .string q.addr]
set_option maxHeartbeats 1000000 in
theorem squareHas_any (X Y S : Int) (x y : Int) (w : World) (hX : 0 ≤ X ∧ X ≤ 100) (hY : 0 ≤ Y ∧ Y ≤ 100) (hS : 0 ≤ S ∧ S ≤ 100) :
    Calls Try.prog 67 #[.agg #[.int .i64 X, .int .i64 Y, .int .i64 S], .int .i64 x, .int .i64 y] w fun e w' => e = .returned (.bool (inB x X (X + S - 1) && inB y Y (Y + S - 1))) ∧ Below w.heap.size w w' := by
  obtain ⟨x1, x2⟩ := hX
  obtain ⟨y1, y2⟩ := hY
  obtain ⟨s1, s2⟩ := hS
  have hb := bl_alloc w (.cells #[.int .i64 X, .int .i64 Y, .int .i64 S] 81)
  have c1 := fun w => in_any x X (X + S - 1) w
  have c2 := fun w => in_any y Y (Y + S - 1) w
  have e1 : IntKind.i64.wrap (X + S) = X + S := IntWalk.i64_in _ (by omega)
  have e2 : IntKind.i64.wrap (X + S - 1) = X + S - 1 := IntWalk.i64_in _ (by omega)
  have e3 : IntKind.i64.wrap (Y + S) = Y + S := IntWalk.i64_in _ (by omega)
  have e4 : IntKind.i64.wrap (Y + S - 1) = Y + S - 1 := IntWalk.i64_in _ (by omega)
  cases h1 : inB x X (X + S - 1)
  · simp only [h1] at c1
    have C1 := Lib.hid c1; clear c1
    have H1 := Lib.hid h1; clear h1
    clear c2
    go_enter Try.func67, Try.ntmps67
    go_wp2_with fail
    with_reducible (refine (C1.out _).mono ?_)
    rintro e w1 ⟨rfl, rfl⟩
    go_wp2
    go_ret
    exact ⟨rfl, hb⟩
  · simp only [h1] at c1
    cases h2 : inB y Y (Y + S - 1)
    all_goals
      simp only [h2] at c2
      have C1 := Lib.hid c1; clear c1
      have H1 := Lib.hid h1; clear h1
      have C2 := Lib.hid c2; clear c2
      have H2 := Lib.hid h2; clear h2
      go_enter Try.func67, Try.ntmps67
      go_wp2_with fail
      with_reducible (refine (C1.out _).mono ?_)
      rintro e w1 ⟨rfl, rfl⟩
      go_wp2_with fail
      with_reducible (refine (C2.out _).mono ?_)
      rintro e w1 ⟨rfl, rfl⟩
      go_wp2
      go_ret
      exact ⟨rfl, hb⟩
theorem callFunc_leafAt1 : ∀ args w, (callFunc 66 args).run Try.prog w = .ok (.enter 66 args) w := fun args w => by kernel_rfl
set_option maxHeartbeats 1000000 in
theorem leafAt1_any (q : QLeaf) (x y : Int) (xb yb : Nat) (t1 t2 : TypeId) (w : World) (X : Box w xb (.int .i64 x) t1) (Y : Box w yb (.int .i64 y) t2) (h1 : q.x + q.side ≤ 16) (h2 : q.y + q.side ≤ 16) :
    Calls Try.prog 66 #[leafA q, .pointer (some ⟨xb, 0, none⟩), .pointer (some ⟨yb, 0, none⟩)] w fun e w' => e = .returned (.bool (inLeaf x y q)) ∧ Below w.heap.size w w' := by
  have hb := bl_alloc w (.cells #[.int .i64 q.x, .int .i64 q.y, .int .i64 q.side, .bool q.black, .string q.addr] 83)
  have x0 := (X.bl hb).cell
  have y0 := (Y.bl hb).cell
  have c1 := fun w => squareHas_any (q.x : Int) (q.y : Int) (q.side : Int) x y w (by omega) (by omega) (by omega)
  have hin : inLeaf x y q = (inB x (q.x : Int) ((q.x : Int) + (q.side : Int) - 1) && inB y (q.y : Int) ((q.y : Int) + (q.side : Int) - 1)) := rfl
  rw [← hin] at c1
  have hlx := X.lt
  have hly := Y.lt
  generalize inLeaf x y q = R at *
  unfold leafA
  obtain ⟨u1, eu1⟩ : ∃ u : Int, (q.x : Int) = u := ⟨_, rfl⟩
  obtain ⟨u2, eu2⟩ : ∃ u : Int, (q.y : Int) = u := ⟨_, rfl⟩
  obtain ⟨u3, eu3⟩ : ∃ u : Int, (q.side : Int) = u := ⟨_, rfl⟩
  simp only [eu1, eu2, eu3] at hb x0 y0 c1 ⊢
  clear hin
  have C1 := Lib.hid c1; clear c1
  have Eu1 := Lib.hid eu1; clear eu1
  have Eu2 := Lib.hid eu2; clear eu2
  have Eu3 := Lib.hid eu3; clear eu3
  clear X Y
  go_enter Try.func66, Try.ntmps66
  go_wp2_with fail
  with_reducible (refine (C1.out _).mono ?_)
  rintro e w1 ⟨rfl, hb1⟩
  have hb2 := bl_trans hb hb1
  go_wp2
  go_ret
  exact ⟨rfl, hb2⟩
/-- What IndexFunc answers. -/
def fiZ (l : List QLeaf) (q : QLeaf → Bool) : Int := if l.findIdx q < l.length then (l.findIdx q : Int) else -1
set_option maxHeartbeats 4000000 in
theorem indexLeaves_any (kb : FuncId) (capb : Array Value) (p : Option Addr) (c : Nat) (l : List QLeaf) (q : QLeaf → Bool) (w : World) (hn : l.length ≤ 1048576) (hr : Rd w p (l.length * 5) (leafAt true l))
    (hk : ∀ args w, (callFunc kb args).run Try.prog w = .ok (.enter kb args) w)
    (hcall : ∀ i w', i < l.length → Below w.heap.size w w' → Calls Try.prog kb (#[leafA (l.getD i noLeaf)] ++ capb) w' fun e w'' => e = .returned (.bool (q (l.getD i noLeaf))) ∧ Below w'.heap.size w' w'') :
    Calls Try.prog 65 #[.slice p l.length c, .func (.func kb) #[] capb] w fun e w' => e = .returned (.int .i64 (fiZ l q)) ∧ Below w.heap.size w w' := by
  go_enter Try.func65, Try.ntmps65
  go_wp2
  go_loopw [8] (fun i wr => ∃ j : Nat, j ≤ l.length ∧ i = .int .i64 j ∧ (∀ k, k < j → q (l.getD k noLeaf) = false) ∧ Since w wr) (fun i _ => l.length - (intOf i).toNat)
  case atStart => exact ⟨0, Nat.zero_le _, rfl, fun k hk => absurd hk (Nat.not_lt_zero _), Since.refl w⟩
  case round =>
    obtain ⟨j, hj, rfl, hno, S⟩ := hrel
    by_cases hlt : j < l.length
    · obtain ⟨b, o, rfl, hbl, x0, x1, x2, x3, x4⟩ := leaf_cells (hr.below S.below (Nat.le_refl _)) hlt
      simp only [if_true] at x3
      have hj0 : (0 : Int) ≤ (j : Int) := Int.natCast_nonneg _
      have hj1 : (j : Int) < (l.length : Int) := by omega
      have hcl := hcall j wr hlt S.below
      have hno2 : q (l.getD j noLeaf) = false → ∀ k, k < j + 1 → q (l.getD k noLeaf) = false := by
        intro h k hk
        by_cases hkj : k = j
        · rw [hkj]; exact h
        · exact hno k (by omega)
      have hyes : q (l.getD j noLeaf) = true → fiZ l q = (j : Int) := by
        intro h
        rw [fiZ, findIdx_hit hlt hno h, if_pos hlt]
      unfold leafA at hcl
      generalize ((l.getD j noLeaf).x : Int) = u1 at *
      generalize ((l.getD j noLeaf).y : Int) = u2 at *
      generalize ((l.getD j noLeaf).side : Int) = u3 at *
      generalize (l.getD j noLeaf).black = u4 at *
      generalize (l.getD j noLeaf).addr = u5 at *
      cases hq : q (l.getD j noLeaf)
      · rw [hq] at hcl
        have hno3 := hno2 hq
        have Hcl := Lib.hid hcl; clear hcl
        have Hno3 := Lib.hid hno3; clear hno3
        have Hq := Lib.hid hq; clear hq
        clear hr hcall hyes hno hno2
        go_wp2_with fail
        refine Hcl.out.mono ?_
        rintro e w1 ⟨rfl, hb1⟩
        have S1 := S.bl hb1
        clear hb1 S x0 x1 x2 x3 x4
        go_wp2
        go_roundw
        case rel => exact ⟨j + 1, by omega, by go_num, Hno3.out, S1⟩
        case measure => simp [intOf]; omega
      · rw [hq] at hcl
        have hy := hyes hq
        have Hcl := Lib.hid hcl; clear hcl
        have Hq := Lib.hid hq; clear hq
        have Hy := Lib.hid hy; clear hy
        clear hr hcall hyes hno hno2
        go_wp2_with fail
        refine Hcl.out.mono ?_
        rintro e w1 ⟨rfl, hb1⟩
        have S1 := S.bl hb1
        clear hb1 S x0 x1 x2 x3 x4
        go_wp2
        go_ret
        refine ⟨?_, S1.below⟩
        rw [Hy.out]; rfl
    · obtain rfl : j = l.length := by omega
      have hm2 : fiZ l q = -1 := by rw [fiZ, findIdx_miss hno, if_neg (Nat.lt_irrefl _)]
      have Hm2 := Lib.hid hm2; clear hm2
      clear hno
      go_wp2
      go_ret
      refine ⟨?_, S.below⟩
      rw [Hm2.out]; rfl
set_option maxRecDepth 100000 in
set_option maxHeartbeats 2000000 in
theorem leafAt_any (n : Int) (s : ByteArray) (x y : Int) (w : World) (hs : s.size ≤ maxLen) :
    Calls Try.prog 27 #[.agg #[.int .i64 n, .string s], .int .i64 x, .int .i64 y] w fun e w' => e = .returned (.tuple #[.int .i64 (laI n s x y), .bool (laOk n s x y)]) ∧ Below w.heap.size w w' := by
  have S := (((Since.refl w).alloc (.cells #[.int .i64 n, .string s] 26)).alloc (.cells #[.int .i64 x] 2)).alloc (.cells #[.int .i64 y] 2)
  have X := (Box.new (w.alloc (.cells #[.int .i64 n, .string s] 26)) (.int .i64 x) 2).alloc (.cells #[.int .i64 y] 2)
  have Y := Box.new ((w.alloc (.cells #[.int .i64 n, .string s] 26)).alloc (.cells #[.int .i64 x] 2)) (.int .i64 y) 2
  simp only [World.size_alloc] at X Y
  have c0 := fun w => leavesOf_any n s w hs
  unfold LvOut at c0
  cases hv : treeV n s
  · obtain ⟨ha, hb⟩ := laOk_no (x := x) (y := y) hv
    rw [ha, hb]
    simp only [hv] at c0
    have C0 := Lib.hid c0; clear c0
    have Hv := Lib.hid hv; clear hv
    have Ha := Lib.hid ha; clear ha
    have Hb := Lib.hid hb; clear hb
    clear X Y
    go_enter Try.func27, Try.ntmps27
    go_wp2_with fail
    with_reducible (refine (C0.out _).mono ?_)
    rintro e w1 ⟨hb, v, L, rfl, O, hL⟩
    obtain ⟨q, d, rfl⟩ := O.form
    replace S := S.bl hb
    clear hb O hL
    go_wp2
    go_ret2
    exact ⟨rfl, S.below⟩
  · simp only [hv] at c0
    have lok := treeLv_ok hv
    have hl1 := lok.pos
    have hl2 := lok.len
    have hbd := lok.bd
    have hN : laN n s x y = (treeLv n s).findIdx (inLeaf x y) := rfl
    have hI : laI n s x y = if laOk n s x y then (laN n s x y : Int) else 0 := rfl
    have hQ : laOk n s x y = decide (laN n s x y < (treeLv n s).length) := by rw [laOk, hv]; rfl
    obtain ⟨I, eI⟩ : ∃ I, laI n s x y = I := ⟨_, rfl⟩
    obtain ⟨Q, eQ⟩ : ∃ Q, laOk n s x y = Q := ⟨_, rfl⟩
    rw [eI, eQ]
    rw [eI, eQ] at hI
    rw [eQ] at hQ
    rw [hN] at hI hQ
    generalize treeLv n s = LV at *
    have C0 := Lib.hid c0; clear c0
    have Hv := Lib.hid hv; clear hv
    have Hbd := Lib.hid hbd; clear hbd
    have HI := Lib.hid hI; clear hI
    have HQ := Lib.hid hQ; clear hQ
    have EI := Lib.hid eI; clear eI
    have EQ := Lib.hid eQ; clear eQ
    have HN := Lib.hid hN; clear hN
    clear lok
    go_enter Try.func27, Try.ntmps27
    go_wp2_with fail
    with_reducible (refine (C0.out _).mono ?_)
    rintro e w1 ⟨hb, v, L, rfl, O, hL⟩
    have hL2 : L = LV := hL (by trivial)
    subst hL2
    obtain ⟨q, d, rfl⟩ := O.form
    have R := O.rd
    replace S := S.bl hb
    replace X := X.bl hb
    replace Y := Y.bl hb
    clear hb O hL
    have c1 := indexLeaves_any 66 #[.pointer (some ⟨w.heap.size + 1, 0, none⟩), .pointer (some ⟨w.heap.size + 2, 0, none⟩)] q d L (inLeaf x y) w1 (by omega) R callFunc_leafAt1 (fun i w' hi hb => leafAt1_any (L.getD i noLeaf) x y _ _ _ _ w' (X.bl hb) (Y.bl hb) (by have := Hbd.out i hi; omega) (by have := Hbd.out i hi; omega))
    have hI2 := HI.out
    have hQ2 := HQ.out
    have hZ : fiZ L (inLeaf x y) = if L.findIdx (inLeaf x y) < L.length then (L.findIdx (inLeaf x y) : Int) else -1 := rfl
    by_cases hlt : L.findIdx (inLeaf x y) < L.length
    · rw [decide_eq_true hlt] at hQ2
      rw [hQ2, if_pos rfl] at hI2
      rw [if_pos hlt, ← hI2] at hZ
      rw [hZ] at c1
      have hz1 : (0 : Int) ≤ I := by omega
      have C1 := Lib.hid c1; clear c1
      have HI2 := Lib.hid hI2; clear hI2
      have HQ2 := Lib.hid hQ2; clear hQ2
      have Hlt := Lib.hid hlt; clear hlt
      have HZ := Lib.hid hZ; clear hZ
      clear X Y R
      go_wp2_with fail
      with_reducible (refine C1.out.mono ?_)
      rintro e w2 ⟨rfl, hb⟩
      replace S := S.bl hb
      clear hb
      go_wp2
      go_ret2
      refine ⟨?_, S.below⟩
      rw [HQ2.out]; rfl
    · rw [decide_eq_false hlt] at hQ2
      rw [hQ2, if_neg (by simp)] at hI2
      rw [if_neg hlt] at hZ
      rw [hZ] at c1
      have C1 := Lib.hid c1; clear c1
      have HI2 := Lib.hid hI2; clear hI2
      have HQ2 := Lib.hid hQ2; clear hQ2
      have Hlt := Lib.hid hlt; clear hlt
      have HZ := Lib.hid hZ; clear hZ
      clear X Y R
      go_wp2_with fail
      with_reducible (refine C1.out.mono ?_)
      rintro e w2 ⟨rfl, hb⟩
      replace S := S.bl hb
      clear hb
      go_wp2
      go_ret2
      refine ⟨?_, S.below⟩
      rw [HQ2.out, HI2.out]; rfl
end Go.Proofs.Ytnenogpagkepfaa
