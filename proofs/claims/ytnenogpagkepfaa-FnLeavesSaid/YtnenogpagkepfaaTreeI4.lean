/- Contract of the program's readSquare. -/
import Derived.Test.YtnenogpagkepfaaTreeI3
set_option linter.unusedVariables false
set_option linter.unusedSimpArgs false
namespace Go.Proofs.Ytnenogpagkepfaa
open Go.RowKit

/-- The loop of readSquare: i of the four squares inside are read. -/
def NodeRel (t : ByteArray) (k n x y : Nat) (p : ByteArray) (w : World) (bq : Nat) (z v i : Value) (wr : World) : Prop :=
  ∃ (j : Nat) (ji : Int) (l : List QT) (m : Nat), j ≤ 4 ∧ ji = (j : Int) ∧ i = .int .i64 ji ∧ z = .int .i64 m ∧ rcN t k j (n + 1) = some (l, m) ∧ OwnLeaves true 83 w.heap.size wr v (lvN k x y p l) ∧ Since w wr ∧ Blk wr bq (quarV x y ((2 ^ k : Nat) : Int)) 81 ∧ ∀ b, v.ownBlock = some b → b ≠ bq
theorem rs_append {w wr w2 : World} {l m : List QLeaf} {v : Value} {g cap : Nat} (O : OwnLeaves true 83 w.heap.size wr v l)
    (ho : w2.ownsRow w.heap.size 83 5 (.slice (some ⟨g, 0, none⟩) (l.length + m.length) cap) (l.length + m.length) (leafCells true l ++ leafCells true m)) : OwnLeaves true 83 w.heap.size w2 (.slice (some ⟨g, 0, none⟩) (l.length + m.length) cap) (l ++ m) :=
  ⟨_, _, by rw [List.length_append], by rw [List.length_append, leafCells_app]; exact ho⟩
theorem bytes_is (b : ByteArray) (l : List UInt8) : (b.toList == l) = decide (b = bytesOf l) := by
  rw [ByteArray.toList_eq, Bool.eq_iff_iff, beq_iff_eq, decide_eq_true_eq]
  constructor
  · rintro rfl; rfl
  · rintro rfl; rfl
theorem addr_size (p : ByteArray) (b : UInt8) : (p ++ addrB b).size = p.size + 1 := by rw [ByteArray.size_append]; rfl
set_option maxRecDepth 100000 in
set_option maxHeartbeats 8000000 in
theorem readSquare_node (t : ByteArray) (k : Nat)
    (ih : ∀ (n x y : Nat) (X Y s : Int) (p : ByteArray) (w : World), X = (x : Int) → Y = (y : Int) → s = ((2 ^ k : Nat) : Int) → n ≤ t.size → x + 2 ^ k ≤ 16 → y + 2 ^ k ≤ 16 → p.size + k ≤ 4 → Calls Try.prog 94 #[.string t, .int .i64 n, .agg #[.int .i64 X, .int .i64 Y, .int .i64 s], .string p] w (SqOut 83 t k n x y p w))
    (n x y : Nat) (s : Int) (p : ByteArray) (w : World) (ht : t.size ≤ maxLen) (hs : s = ((2 ^ (k + 1) : Nat) : Int)) (hk : k + 1 ≤ 4) (hn : n < t.size) (hc : t[n] = 40) (hx : x + 2 ^ (k + 1) ≤ 16) (hy : y + 2 ^ (k + 1) ≤ 16) (hp : p.size + (k + 1) ≤ 4) :
    Calls Try.prog 94 #[.string t, .int .i64 n, .agg #[.int .i64 x, .int .i64 y, .int .i64 s], .string p] w (SqOut 83 t (k + 1) n x y p w) := by
  unfold maxLen at ht
  have t1 : ((t[n].toNat : Int) == 35) = false := by rw [hc]; rfl
  have t2 : ((t[n].toNat : Int) == 46) = false := by rw [hc]; rfl
  have t3 : ((t[n].toNat : Int) != 40) = false := by rw [hc]; rfl
  have hM : 2 ^ (k + 1) = 2 * 2 ^ k := by rw [Nat.pow_succ]; omega
  have hM1 := pow_le4 (k := k) (by omega)
  rw [hM] at hs hx hy
  have hM8 : 2 ^ k ≤ 8 := by omega
  have t4 : (s == 1) = false := by rw [← Bool.not_eq_true, beq_iff_eq]; omega
  have hn0 : (0 : Int) ≤ (n : Int) := Int.natCast_nonneg _
  have hn1 : (n : Int) < (t.size : Int) := by omega
  have hno := fun i (h : rcN t k i (n + 1) = none) (hi : i ≤ 4) => rs_none (rC_node_no hn hc h hi) x y p
  have hno2 := fun a b c d m (h : rcN t k 4 (n + 1) = some ([a, b, c, d], m)) h2 => rs_none (rC_node_no2 hn hc h h2) x y p
  have hyes := fun a b c d m (h : rcN t k 4 (n + 1) = some ([a, b, c, d], m)) h2 h3 => rs_some (rC_node_yes hn hc h h2 h3) x y p
  have hwh := fun a b c d m (h : rcN t k 4 (n + 1) = some ([a, b, c, d], m)) => whole_is hn hc h
  have hlvn := fun a b c d => lvN_node k x y p a b c d
  have cq := fun w => quarters_any (x : Int) (y : Int) s (2 ^ k) w (by omega) (by omega) (by omega) (by omega) (by rw [hs]; omega) hM8
  have hmul : ∀ j, j ≤ 4 → ∀ l m, rcN t k j (n + 1) = some (l, m) → (lvN k x y p l).length ≤ 1024 := by
    intro j hj l m h
    have h1 := rcN_len j _ _ _ h
    have h2 := lvN_len (k := k) (x := x) (y := y) (p := p) l (rcN_deep j _ _ _ h)
    have h3 : 4 ^ k ≤ 4 ^ 4 := Nat.pow_le_pow_right (by omega) (by omega)
    have h4 : l.length * 4 ^ k ≤ 4 * 4 ^ 4 := Nat.mul_le_mul (by omega) h3
    omega
  have S := (Since.refl w).alloc (.cells #[.int .i64 x, .int .i64 y, .int .i64 s] 81)
  have B := Blk.new w #[.int .i64 x, .int .i64 y, .int .i64 s] 81
  have S1 := S.alloc (.cells #[] 83)
  have B1 := B.alloc (.cells #[] 83)
  have O1 : OwnLeaves true 83 w.heap.size ((w.alloc (.cells #[.int .i64 x, .int .i64 y, .int .i64 s] 81)).alloc (.cells #[] 83)) (.slice (some ⟨w.heap.size + 1, 0, none⟩) 0 0) (lvN k x y p []) := by
    have := World.ownsRow_made (base := w.heap.size) (size := 5) (e := 83) (w.alloc (.cells #[.int .i64 x, .int .i64 y, .int .i64 s] 81)) #[] 0 (by simp) (by decide) rfl
    simp only [World.size_alloc] at this
    exact ⟨_, _, rfl, this⟩
  clear B S
  obtain ⟨i0, hi, hz0, hz1, hz2⟩ := info_parts info_leaf
  have Hs := Lib.hid hs; clear hs
  have Hc := Lib.hid hc; clear hc
  have Hno := Lib.hid hno; clear hno
  have Hno2 := Lib.hid hno2; clear hno2
  have Hyes := Lib.hid hyes; clear hyes
  have Hwh := Lib.hid hwh; clear hwh
  have Hlvn := Lib.hid hlvn; clear hlvn
  have Cq := Lib.hid cq; clear cq
  have Ih := Lib.hid ih; clear ih
  have Hmul := Lib.hid hmul; clear hmul
  have HM := Lib.hid hM; clear hM
  have HM8 := Lib.hid hM8; clear hM8
  go_enter Try.func94, Try.ntmps94
  go_wp2_with fail
  with_reducible (refine (Cq.out _).mono ?_)
  rintro e w1 ⟨bq, rfl, Q, hbq, hb⟩
  replace S1 := S1.bl hb
  replace O1 := O1.bl hb
  simp only [World.size_alloc] at hbq
  have hne : ∀ b, (Value.slice (some ⟨w.heap.size + 1, 0, none⟩) 0 0).ownBlock = some b → b ≠ bq := fun b e => by simp only [Value.ownBlock, Option.some.injEq] at e; omega
  clear hb B1 Cq
  go_wp2_with fail
  go_loopw [1, 10, 57] (fun z v i wr => NodeRel t k n x y p w bq z v i wr) (fun _ _ i _ => 4 - (intOf i).toNat)
  case atStart => exact ⟨0, 0, [], n + 1, by omega, rfl, rfl, by go_num, rfl, O1, S1, Q, hne⟩
  case round =>
    clear O1 S1 Q hne
    obtain ⟨j, ji, l, m, hj, hji, rfl, rfl, hrc, O, S, Q, hne⟩ := hrel
    have hji1 : ji ≤ j := by omega
    have hji2 : (j : Int) ≤ ji := by omega
    clear hji
    obtain ⟨q, d, rfl⟩ := O.form
    have hlen := rcN_len j _ l m hrc
    have hm : m ≤ t.size := by
      rcases hlen.2.2 with h | h
      · exact h
      · subst h; simp [rcN] at hrc; omega
    obtain ⟨hlen1, hlen2, hlen3⟩ := hlen
    clear hlen3
    have hL := Hmul.out j hj l m hrc
    have hm0 : (0 : Int) ≤ (m : Int) := Int.natCast_nonneg _
    have hm1 : (m : Int) ≤ (t.size : Int) := by omega
    by_cases hj4 : j < 4
    · have hj5 : j = 0 ∨ j = 1 ∨ j = 2 ∨ j = 3 := by omega
      rcases hj5 with rfl | rfl | rfl | rfl
      · have q0 : wr.cell? ⟨bq, 0, none⟩ = some (.int .i64 (x : Int)) := Q.cell 0 rfl
        have q1 : wr.cell? ⟨bq, 1, none⟩ = some (.int .i64 (y : Int)) := Q.cell 1 rfl
        have q2 : wr.cell? ⟨bq, 2, none⟩ = some (.int .i64 ((2 ^ k : Nat) : Int)) := Q.cell 2 rfl
        obtain rfl : ji = 0 := by omega
        have ci := fun w' => Ih.out m (x + (0 % 2) * 2 ^ k) (y + (0 / 2) * 2 ^ k) (x : Int) (y : Int) ((2 ^ k : Nat) : Int) (p ++ ⟨#[48]⟩) w' (by omega) (by omega) rfl hm (by omega) (by omega) (by have := addr_size p 48; rw [show addrB 48 = (⟨#[48]⟩ : ByteArray) from rfl] at this; omega)
        have hM0 : (0 : Int) ≤ ((2 ^ k : Nat) : Int) := Int.natCast_nonneg _
        have hM9 : ((2 ^ k : Nat) : Int) ≤ 8 := by have := HM8.out; omega
        cases hr : rC t k m with
        | none =>
          have hst := Hno.out 1 (rcN_stop hrc hr) (by omega)
          obtain ⟨e1, e2⟩ := rs_none hr (x + (0 % 2) * 2 ^ k) (y + (0 / 2) * 2 ^ k) (p ++ ⟨#[48]⟩)
          have cj := fun w' => (ci w').mono (fun e w'' q => show Below w'.heap.size w' w'' ∧ ∃ v, e = .returned (.tuple #[v, .int .i64 (-1)]) ∧ OwnLeaves true 83 w'.heap.size w'' v [] from by
            obtain ⟨h1, v, h2, h3⟩ := q
            rw [e1] at h2
            rw [e2] at h3
            exact ⟨h1, v, h2, h3⟩)
          clear e1 e2 ci
          have hu : Utf8.encode 48 = (⟨#[48]⟩ : ByteArray) := by kernel_rfl
          generalize ((2 ^ k : Nat) : Int) = MM at *
          have Hst := Lib.hid hst; clear hst
          have Cj := Lib.hid cj; clear cj
          have Hr := Lib.hid hr; clear hr
          have Hrc := Lib.hid hrc; clear hrc
          go_wp2_with fail
          with_reducible (refine (Cj.out _).mono ?_)
          rintro e w3 ⟨hb3, v, rfl, O3⟩
          obtain ⟨q3, d3, rfl⟩ := O3.form
          replace S := (S.alloc _).bl hb3
          go_wp2
          go_ret2
          exact ⟨S.below, _, by rw [Hst.out.1]; rfl, by rw [Hst.out.2]; exact OwnLeaves.nil _ _⟩
        | some qT =>
          obtain ⟨T, m2⟩ := qT
          have hst := rcN_succ hrc hr
          obtain ⟨e1, e2⟩ := rs_some hr (x + (0 % 2) * 2 ^ k) (y + (0 / 2) * 2 ^ k) (p ++ ⟨#[48]⟩)
          have cj := fun w' => (ci w').mono (fun e w'' q => show Below w'.heap.size w' w'' ∧ ∃ v, e = .returned (.tuple #[v, .int .i64 (m2 : Int)]) ∧ OwnLeaves true 83 w'.heap.size w'' v (T.leaves k (x + (0 % 2) * 2 ^ k) (y + (0 / 2) * 2 ^ k) (p ++ ⟨#[48]⟩)) from by
            obtain ⟨h1, v, h2, h3⟩ := q
            rw [e1] at h2
            rw [e2] at h3
            exact ⟨h1, v, h2, h3⟩)
          have hsn := lvN_snoc k x y p l T
          rw [hlen1] at hsn
          have hsn2 : lvN k x y p (l ++ [T]) = lvN k x y p l ++ T.leaves k (x + (0 % 2) * 2 ^ k) (y + (0 / 2) * 2 ^ k) (p ++ ⟨#[48]⟩) := hsn
          have hpos := leaves_pos k T (x + (0 % 2) * 2 ^ k) (y + (0 / 2) * 2 ^ k) (p ++ ⟨#[48]⟩)
          have hln := leaves_len k T (x + (0 % 2) * 2 ^ k) (y + (0 / 2) * 2 ^ k) (p ++ ⟨#[48]⟩) (rC_bd hr).2.2
          have hln2 : 4 ^ k ≤ 4 ^ 4 := Nat.pow_le_pow_right (by omega) (by omega)
          have hln3 : (T.leaves k (x + (0 % 2) * 2 ^ k) (y + (0 / 2) * 2 ^ k) (p ++ ⟨#[48]⟩)).length ≤ 256 := by omega
          generalize T.leaves k (x + (0 % 2) * 2 ^ k) (y + (0 / 2) * 2 ^ k) (p ++ ⟨#[48]⟩) = LT at *
          have hu : Utf8.encode 48 = (⟨#[48]⟩ : ByteArray) := by kernel_rfl
          have hm2 : (0 : Int) ≤ (m2 : Int) := Int.natCast_nonneg _
          have hMM : ((2 ^ k : Nat) : Int) = ((2 ^ k : Nat) : Int) := rfl
          clear e1 e2 ci hsn hln hln2 hMM
          obtain ⟨MM, eMM⟩ : ∃ MM, ((2 ^ k : Nat) : Int) = MM := ⟨_, rfl⟩
          rw [eMM] at Q cj q2 hM0 hM9
          (try rw [eMM] at q0)
          (try rw [eMM] at q1)
          have Hst := Lib.hid hst; clear hst
          have Cj := Lib.hid cj; clear cj
          have Hr := Lib.hid hr; clear hr
          have Hrc := Lib.hid hrc; clear hrc
          have Hsn2 := Lib.hid hsn2; clear hsn2
          have EMM := Lib.hid eMM; clear eMM
          go_wp2_with fail
          with_reducible (refine (Cj.out _).mono ?_)
          rintro e w3 ⟨hb3, v, rfl, O3⟩
          obtain ⟨g3, d3, rfl, hg3, hlt3, hnews⟩ := O3.at hpos
          replace S := (S.alloc (.cells #[.int .i64 (x : Int), .int .i64 (y : Int), .int .i64 MM] 81)).bl hb3
          replace Q := (Q.alloc (.cells #[.int .i64 (x : Int), .int .i64 (y : Int), .int .i64 MM] 81)).bl hb3
          replace O := (O.bl (bl_alloc _ (.cells #[.int .i64 (x : Int), .int .i64 (y : Int), .int .i64 MM] 81))).bl hb3
          obtain ⟨_, hown⟩ := O.own
          have hS := S.size
          have hlc := leafCells_len true LT
          have hQ := Q.lt
          clear hb3 O3 hg3 q0 q1 q2
          go_wp2_with (at_builtin; refine wpList_append_lies _ rfl _ _ 71 rfl w.heap.size 83 i0 _ 5 48 Try.underlying71 hi hz0 hz1 hz2 rfl (by decide) (.slice q (lvN k x y p l).length d) (lvN k x y p l).length _ rfl hown ⟨g3, 0, none⟩ LT.length d3 (leafCells true LT) rfl hlc hnews (leaf_ones _ _) hpos (by simp [maxLen]; omega) (by omega) hS _ rfl ?_; intro g' cap w4 hown4 hgr hat hlt4)
          have S4 : Since w w4 := ⟨below_own S.below hgr (own_ge hown) hS⟩
          have Q4 := Q.grown hgr (fun e => hne bq e.symm rfl)
          have hne4 : ∀ b, (Value.slice (some ⟨g', 0, none⟩) ((lvN k x y p l).length + LT.length) cap).ownBlock = some b → b ≠ bq := by
            intro b e
            simp only [Value.ownBlock, Option.some.injEq] at e
            subst e
            rcases hat with h | h
            · exact hne _ h
            · omega
          have O4 := rs_append O hown4
          go_roundw
          case rel =>
            refine ⟨1, 1, l ++ [T], m2, by omega, rfl, rfl, rfl, Hst.out, ?_, S4, by rw [EMM.out]; exact Q4, hne4⟩
            rw [Hsn2.out]
            exact O4
          case measure => simp [intOf]
      · have q0 : wr.cell? ⟨bq, 3, none⟩ = some (.int .i64 ((x : Int) + ((2 ^ k : Nat) : Int))) := Q.cell 3 rfl
        have q1 : wr.cell? ⟨bq, 4, none⟩ = some (.int .i64 (y : Int)) := Q.cell 4 rfl
        have q2 : wr.cell? ⟨bq, 5, none⟩ = some (.int .i64 ((2 ^ k : Nat) : Int)) := Q.cell 5 rfl
        obtain rfl : ji = 1 := by omega
        have ci := fun w' => Ih.out m (x + (1 % 2) * 2 ^ k) (y + (1 / 2) * 2 ^ k) ((x : Int) + ((2 ^ k : Nat) : Int)) (y : Int) ((2 ^ k : Nat) : Int) (p ++ ⟨#[49]⟩) w' (by omega) (by omega) rfl hm (by omega) (by omega) (by have := addr_size p 49; rw [show addrB 49 = (⟨#[49]⟩ : ByteArray) from rfl] at this; omega)
        have hM0 : (0 : Int) ≤ ((2 ^ k : Nat) : Int) := Int.natCast_nonneg _
        have hM9 : ((2 ^ k : Nat) : Int) ≤ 8 := by have := HM8.out; omega
        cases hr : rC t k m with
        | none =>
          have hst := Hno.out 2 (rcN_stop hrc hr) (by omega)
          obtain ⟨e1, e2⟩ := rs_none hr (x + (1 % 2) * 2 ^ k) (y + (1 / 2) * 2 ^ k) (p ++ ⟨#[49]⟩)
          have cj := fun w' => (ci w').mono (fun e w'' q => show Below w'.heap.size w' w'' ∧ ∃ v, e = .returned (.tuple #[v, .int .i64 (-1)]) ∧ OwnLeaves true 83 w'.heap.size w'' v [] from by
            obtain ⟨h1, v, h2, h3⟩ := q
            rw [e1] at h2
            rw [e2] at h3
            exact ⟨h1, v, h2, h3⟩)
          clear e1 e2 ci
          have hu : Utf8.encode 49 = (⟨#[49]⟩ : ByteArray) := by kernel_rfl
          generalize ((2 ^ k : Nat) : Int) = MM at *
          have Hst := Lib.hid hst; clear hst
          have Cj := Lib.hid cj; clear cj
          have Hr := Lib.hid hr; clear hr
          have Hrc := Lib.hid hrc; clear hrc
          go_wp2_with fail
          with_reducible (refine (Cj.out _).mono ?_)
          rintro e w3 ⟨hb3, v, rfl, O3⟩
          obtain ⟨q3, d3, rfl⟩ := O3.form
          replace S := (S.alloc _).bl hb3
          go_wp2
          go_ret2
          exact ⟨S.below, _, by rw [Hst.out.1]; rfl, by rw [Hst.out.2]; exact OwnLeaves.nil _ _⟩
        | some qT =>
          obtain ⟨T, m2⟩ := qT
          have hst := rcN_succ hrc hr
          obtain ⟨e1, e2⟩ := rs_some hr (x + (1 % 2) * 2 ^ k) (y + (1 / 2) * 2 ^ k) (p ++ ⟨#[49]⟩)
          have cj := fun w' => (ci w').mono (fun e w'' q => show Below w'.heap.size w' w'' ∧ ∃ v, e = .returned (.tuple #[v, .int .i64 (m2 : Int)]) ∧ OwnLeaves true 83 w'.heap.size w'' v (T.leaves k (x + (1 % 2) * 2 ^ k) (y + (1 / 2) * 2 ^ k) (p ++ ⟨#[49]⟩)) from by
            obtain ⟨h1, v, h2, h3⟩ := q
            rw [e1] at h2
            rw [e2] at h3
            exact ⟨h1, v, h2, h3⟩)
          have hsn := lvN_snoc k x y p l T
          rw [hlen1] at hsn
          have hsn2 : lvN k x y p (l ++ [T]) = lvN k x y p l ++ T.leaves k (x + (1 % 2) * 2 ^ k) (y + (1 / 2) * 2 ^ k) (p ++ ⟨#[49]⟩) := hsn
          have hpos := leaves_pos k T (x + (1 % 2) * 2 ^ k) (y + (1 / 2) * 2 ^ k) (p ++ ⟨#[49]⟩)
          have hln := leaves_len k T (x + (1 % 2) * 2 ^ k) (y + (1 / 2) * 2 ^ k) (p ++ ⟨#[49]⟩) (rC_bd hr).2.2
          have hln2 : 4 ^ k ≤ 4 ^ 4 := Nat.pow_le_pow_right (by omega) (by omega)
          have hln3 : (T.leaves k (x + (1 % 2) * 2 ^ k) (y + (1 / 2) * 2 ^ k) (p ++ ⟨#[49]⟩)).length ≤ 256 := by omega
          generalize T.leaves k (x + (1 % 2) * 2 ^ k) (y + (1 / 2) * 2 ^ k) (p ++ ⟨#[49]⟩) = LT at *
          have hu : Utf8.encode 49 = (⟨#[49]⟩ : ByteArray) := by kernel_rfl
          have hm2 : (0 : Int) ≤ (m2 : Int) := Int.natCast_nonneg _
          have hMM : ((2 ^ k : Nat) : Int) = ((2 ^ k : Nat) : Int) := rfl
          clear e1 e2 ci hsn hln hln2 hMM
          obtain ⟨MM, eMM⟩ : ∃ MM, ((2 ^ k : Nat) : Int) = MM := ⟨_, rfl⟩
          rw [eMM] at Q cj q2 hM0 hM9
          (try rw [eMM] at q0)
          (try rw [eMM] at q1)
          have Hst := Lib.hid hst; clear hst
          have Cj := Lib.hid cj; clear cj
          have Hr := Lib.hid hr; clear hr
          have Hrc := Lib.hid hrc; clear hrc
          have Hsn2 := Lib.hid hsn2; clear hsn2
          have EMM := Lib.hid eMM; clear eMM
          go_wp2_with fail
          with_reducible (refine (Cj.out _).mono ?_)
          rintro e w3 ⟨hb3, v, rfl, O3⟩
          obtain ⟨g3, d3, rfl, hg3, hlt3, hnews⟩ := O3.at hpos
          replace S := (S.alloc (.cells #[.int .i64 (↑x + MM), .int .i64 (y : Int), .int .i64 MM] 81)).bl hb3
          replace Q := (Q.alloc (.cells #[.int .i64 (↑x + MM), .int .i64 (y : Int), .int .i64 MM] 81)).bl hb3
          replace O := (O.bl (bl_alloc _ (.cells #[.int .i64 (↑x + MM), .int .i64 (y : Int), .int .i64 MM] 81))).bl hb3
          obtain ⟨_, hown⟩ := O.own
          have hS := S.size
          have hlc := leafCells_len true LT
          have hQ := Q.lt
          clear hb3 O3 hg3 q0 q1 q2
          go_wp2_with (at_builtin; refine wpList_append_lies _ rfl _ _ 71 rfl w.heap.size 83 i0 _ 5 48 Try.underlying71 hi hz0 hz1 hz2 rfl (by decide) (.slice q (lvN k x y p l).length d) (lvN k x y p l).length _ rfl hown ⟨g3, 0, none⟩ LT.length d3 (leafCells true LT) rfl hlc hnews (leaf_ones _ _) hpos (by simp [maxLen]; omega) (by omega) hS _ rfl ?_; intro g' cap w4 hown4 hgr hat hlt4)
          have S4 : Since w w4 := ⟨below_own S.below hgr (own_ge hown) hS⟩
          have Q4 := Q.grown hgr (fun e => hne bq e.symm rfl)
          have hne4 : ∀ b, (Value.slice (some ⟨g', 0, none⟩) ((lvN k x y p l).length + LT.length) cap).ownBlock = some b → b ≠ bq := by
            intro b e
            simp only [Value.ownBlock, Option.some.injEq] at e
            subst e
            rcases hat with h | h
            · exact hne _ h
            · omega
          have O4 := rs_append O hown4
          go_roundw
          case rel =>
            refine ⟨2, 2, l ++ [T], m2, by omega, rfl, rfl, rfl, Hst.out, ?_, S4, by rw [EMM.out]; exact Q4, hne4⟩
            rw [Hsn2.out]
            exact O4
          case measure => simp [intOf]
      · have q0 : wr.cell? ⟨bq, 6, none⟩ = some (.int .i64 (x : Int)) := Q.cell 6 rfl
        have q1 : wr.cell? ⟨bq, 7, none⟩ = some (.int .i64 ((y : Int) + ((2 ^ k : Nat) : Int))) := Q.cell 7 rfl
        have q2 : wr.cell? ⟨bq, 8, none⟩ = some (.int .i64 ((2 ^ k : Nat) : Int)) := Q.cell 8 rfl
        obtain rfl : ji = 2 := by omega
        have ci := fun w' => Ih.out m (x + (2 % 2) * 2 ^ k) (y + (2 / 2) * 2 ^ k) (x : Int) ((y : Int) + ((2 ^ k : Nat) : Int)) ((2 ^ k : Nat) : Int) (p ++ ⟨#[50]⟩) w' (by omega) (by omega) rfl hm (by omega) (by omega) (by have := addr_size p 50; rw [show addrB 50 = (⟨#[50]⟩ : ByteArray) from rfl] at this; omega)
        have hM0 : (0 : Int) ≤ ((2 ^ k : Nat) : Int) := Int.natCast_nonneg _
        have hM9 : ((2 ^ k : Nat) : Int) ≤ 8 := by have := HM8.out; omega
        cases hr : rC t k m with
        | none =>
          have hst := Hno.out 3 (rcN_stop hrc hr) (by omega)
          obtain ⟨e1, e2⟩ := rs_none hr (x + (2 % 2) * 2 ^ k) (y + (2 / 2) * 2 ^ k) (p ++ ⟨#[50]⟩)
          have cj := fun w' => (ci w').mono (fun e w'' q => show Below w'.heap.size w' w'' ∧ ∃ v, e = .returned (.tuple #[v, .int .i64 (-1)]) ∧ OwnLeaves true 83 w'.heap.size w'' v [] from by
            obtain ⟨h1, v, h2, h3⟩ := q
            rw [e1] at h2
            rw [e2] at h3
            exact ⟨h1, v, h2, h3⟩)
          clear e1 e2 ci
          have hu : Utf8.encode 50 = (⟨#[50]⟩ : ByteArray) := by kernel_rfl
          generalize ((2 ^ k : Nat) : Int) = MM at *
          have Hst := Lib.hid hst; clear hst
          have Cj := Lib.hid cj; clear cj
          have Hr := Lib.hid hr; clear hr
          have Hrc := Lib.hid hrc; clear hrc
          go_wp2_with fail
          with_reducible (refine (Cj.out _).mono ?_)
          rintro e w3 ⟨hb3, v, rfl, O3⟩
          obtain ⟨q3, d3, rfl⟩ := O3.form
          replace S := (S.alloc _).bl hb3
          go_wp2
          go_ret2
          exact ⟨S.below, _, by rw [Hst.out.1]; rfl, by rw [Hst.out.2]; exact OwnLeaves.nil _ _⟩
        | some qT =>
          obtain ⟨T, m2⟩ := qT
          have hst := rcN_succ hrc hr
          obtain ⟨e1, e2⟩ := rs_some hr (x + (2 % 2) * 2 ^ k) (y + (2 / 2) * 2 ^ k) (p ++ ⟨#[50]⟩)
          have cj := fun w' => (ci w').mono (fun e w'' q => show Below w'.heap.size w' w'' ∧ ∃ v, e = .returned (.tuple #[v, .int .i64 (m2 : Int)]) ∧ OwnLeaves true 83 w'.heap.size w'' v (T.leaves k (x + (2 % 2) * 2 ^ k) (y + (2 / 2) * 2 ^ k) (p ++ ⟨#[50]⟩)) from by
            obtain ⟨h1, v, h2, h3⟩ := q
            rw [e1] at h2
            rw [e2] at h3
            exact ⟨h1, v, h2, h3⟩)
          have hsn := lvN_snoc k x y p l T
          rw [hlen1] at hsn
          have hsn2 : lvN k x y p (l ++ [T]) = lvN k x y p l ++ T.leaves k (x + (2 % 2) * 2 ^ k) (y + (2 / 2) * 2 ^ k) (p ++ ⟨#[50]⟩) := hsn
          have hpos := leaves_pos k T (x + (2 % 2) * 2 ^ k) (y + (2 / 2) * 2 ^ k) (p ++ ⟨#[50]⟩)
          have hln := leaves_len k T (x + (2 % 2) * 2 ^ k) (y + (2 / 2) * 2 ^ k) (p ++ ⟨#[50]⟩) (rC_bd hr).2.2
          have hln2 : 4 ^ k ≤ 4 ^ 4 := Nat.pow_le_pow_right (by omega) (by omega)
          have hln3 : (T.leaves k (x + (2 % 2) * 2 ^ k) (y + (2 / 2) * 2 ^ k) (p ++ ⟨#[50]⟩)).length ≤ 256 := by omega
          generalize T.leaves k (x + (2 % 2) * 2 ^ k) (y + (2 / 2) * 2 ^ k) (p ++ ⟨#[50]⟩) = LT at *
          have hu : Utf8.encode 50 = (⟨#[50]⟩ : ByteArray) := by kernel_rfl
          have hm2 : (0 : Int) ≤ (m2 : Int) := Int.natCast_nonneg _
          have hMM : ((2 ^ k : Nat) : Int) = ((2 ^ k : Nat) : Int) := rfl
          clear e1 e2 ci hsn hln hln2 hMM
          obtain ⟨MM, eMM⟩ : ∃ MM, ((2 ^ k : Nat) : Int) = MM := ⟨_, rfl⟩
          rw [eMM] at Q cj q2 hM0 hM9
          (try rw [eMM] at q0)
          (try rw [eMM] at q1)
          have Hst := Lib.hid hst; clear hst
          have Cj := Lib.hid cj; clear cj
          have Hr := Lib.hid hr; clear hr
          have Hrc := Lib.hid hrc; clear hrc
          have Hsn2 := Lib.hid hsn2; clear hsn2
          have EMM := Lib.hid eMM; clear eMM
          go_wp2_with fail
          with_reducible (refine (Cj.out _).mono ?_)
          rintro e w3 ⟨hb3, v, rfl, O3⟩
          obtain ⟨g3, d3, rfl, hg3, hlt3, hnews⟩ := O3.at hpos
          replace S := (S.alloc (.cells #[.int .i64 (x : Int), .int .i64 (↑y + MM), .int .i64 MM] 81)).bl hb3
          replace Q := (Q.alloc (.cells #[.int .i64 (x : Int), .int .i64 (↑y + MM), .int .i64 MM] 81)).bl hb3
          replace O := (O.bl (bl_alloc _ (.cells #[.int .i64 (x : Int), .int .i64 (↑y + MM), .int .i64 MM] 81))).bl hb3
          obtain ⟨_, hown⟩ := O.own
          have hS := S.size
          have hlc := leafCells_len true LT
          have hQ := Q.lt
          clear hb3 O3 hg3 q0 q1 q2
          go_wp2_with (at_builtin; refine wpList_append_lies _ rfl _ _ 71 rfl w.heap.size 83 i0 _ 5 48 Try.underlying71 hi hz0 hz1 hz2 rfl (by decide) (.slice q (lvN k x y p l).length d) (lvN k x y p l).length _ rfl hown ⟨g3, 0, none⟩ LT.length d3 (leafCells true LT) rfl hlc hnews (leaf_ones _ _) hpos (by simp [maxLen]; omega) (by omega) hS _ rfl ?_; intro g' cap w4 hown4 hgr hat hlt4)
          have S4 : Since w w4 := ⟨below_own S.below hgr (own_ge hown) hS⟩
          have Q4 := Q.grown hgr (fun e => hne bq e.symm rfl)
          have hne4 : ∀ b, (Value.slice (some ⟨g', 0, none⟩) ((lvN k x y p l).length + LT.length) cap).ownBlock = some b → b ≠ bq := by
            intro b e
            simp only [Value.ownBlock, Option.some.injEq] at e
            subst e
            rcases hat with h | h
            · exact hne _ h
            · omega
          have O4 := rs_append O hown4
          go_roundw
          case rel =>
            refine ⟨3, 3, l ++ [T], m2, by omega, rfl, rfl, rfl, Hst.out, ?_, S4, by rw [EMM.out]; exact Q4, hne4⟩
            rw [Hsn2.out]
            exact O4
          case measure => simp [intOf]
      · have q0 : wr.cell? ⟨bq, 9, none⟩ = some (.int .i64 ((x : Int) + ((2 ^ k : Nat) : Int))) := Q.cell 9 rfl
        have q1 : wr.cell? ⟨bq, 10, none⟩ = some (.int .i64 ((y : Int) + ((2 ^ k : Nat) : Int))) := Q.cell 10 rfl
        have q2 : wr.cell? ⟨bq, 11, none⟩ = some (.int .i64 ((2 ^ k : Nat) : Int)) := Q.cell 11 rfl
        obtain rfl : ji = 3 := by omega
        have ci := fun w' => Ih.out m (x + (3 % 2) * 2 ^ k) (y + (3 / 2) * 2 ^ k) ((x : Int) + ((2 ^ k : Nat) : Int)) ((y : Int) + ((2 ^ k : Nat) : Int)) ((2 ^ k : Nat) : Int) (p ++ ⟨#[51]⟩) w' (by omega) (by omega) rfl hm (by omega) (by omega) (by have := addr_size p 51; rw [show addrB 51 = (⟨#[51]⟩ : ByteArray) from rfl] at this; omega)
        have hM0 : (0 : Int) ≤ ((2 ^ k : Nat) : Int) := Int.natCast_nonneg _
        have hM9 : ((2 ^ k : Nat) : Int) ≤ 8 := by have := HM8.out; omega
        cases hr : rC t k m with
        | none =>
          have hst := Hno.out 4 (rcN_stop hrc hr) (by omega)
          obtain ⟨e1, e2⟩ := rs_none hr (x + (3 % 2) * 2 ^ k) (y + (3 / 2) * 2 ^ k) (p ++ ⟨#[51]⟩)
          have cj := fun w' => (ci w').mono (fun e w'' q => show Below w'.heap.size w' w'' ∧ ∃ v, e = .returned (.tuple #[v, .int .i64 (-1)]) ∧ OwnLeaves true 83 w'.heap.size w'' v [] from by
            obtain ⟨h1, v, h2, h3⟩ := q
            rw [e1] at h2
            rw [e2] at h3
            exact ⟨h1, v, h2, h3⟩)
          clear e1 e2 ci
          have hu : Utf8.encode 51 = (⟨#[51]⟩ : ByteArray) := by kernel_rfl
          generalize ((2 ^ k : Nat) : Int) = MM at *
          have Hst := Lib.hid hst; clear hst
          have Cj := Lib.hid cj; clear cj
          have Hr := Lib.hid hr; clear hr
          have Hrc := Lib.hid hrc; clear hrc
          go_wp2_with fail
          with_reducible (refine (Cj.out _).mono ?_)
          rintro e w3 ⟨hb3, v, rfl, O3⟩
          obtain ⟨q3, d3, rfl⟩ := O3.form
          replace S := (S.alloc _).bl hb3
          go_wp2
          go_ret2
          exact ⟨S.below, _, by rw [Hst.out.1]; rfl, by rw [Hst.out.2]; exact OwnLeaves.nil _ _⟩
        | some qT =>
          obtain ⟨T, m2⟩ := qT
          have hst := rcN_succ hrc hr
          obtain ⟨e1, e2⟩ := rs_some hr (x + (3 % 2) * 2 ^ k) (y + (3 / 2) * 2 ^ k) (p ++ ⟨#[51]⟩)
          have cj := fun w' => (ci w').mono (fun e w'' q => show Below w'.heap.size w' w'' ∧ ∃ v, e = .returned (.tuple #[v, .int .i64 (m2 : Int)]) ∧ OwnLeaves true 83 w'.heap.size w'' v (T.leaves k (x + (3 % 2) * 2 ^ k) (y + (3 / 2) * 2 ^ k) (p ++ ⟨#[51]⟩)) from by
            obtain ⟨h1, v, h2, h3⟩ := q
            rw [e1] at h2
            rw [e2] at h3
            exact ⟨h1, v, h2, h3⟩)
          have hsn := lvN_snoc k x y p l T
          rw [hlen1] at hsn
          have hsn2 : lvN k x y p (l ++ [T]) = lvN k x y p l ++ T.leaves k (x + (3 % 2) * 2 ^ k) (y + (3 / 2) * 2 ^ k) (p ++ ⟨#[51]⟩) := hsn
          have hpos := leaves_pos k T (x + (3 % 2) * 2 ^ k) (y + (3 / 2) * 2 ^ k) (p ++ ⟨#[51]⟩)
          have hln := leaves_len k T (x + (3 % 2) * 2 ^ k) (y + (3 / 2) * 2 ^ k) (p ++ ⟨#[51]⟩) (rC_bd hr).2.2
          have hln2 : 4 ^ k ≤ 4 ^ 4 := Nat.pow_le_pow_right (by omega) (by omega)
          have hln3 : (T.leaves k (x + (3 % 2) * 2 ^ k) (y + (3 / 2) * 2 ^ k) (p ++ ⟨#[51]⟩)).length ≤ 256 := by omega
          generalize T.leaves k (x + (3 % 2) * 2 ^ k) (y + (3 / 2) * 2 ^ k) (p ++ ⟨#[51]⟩) = LT at *
          have hu : Utf8.encode 51 = (⟨#[51]⟩ : ByteArray) := by kernel_rfl
          have hm2 : (0 : Int) ≤ (m2 : Int) := Int.natCast_nonneg _
          have hMM : ((2 ^ k : Nat) : Int) = ((2 ^ k : Nat) : Int) := rfl
          clear e1 e2 ci hsn hln hln2 hMM
          obtain ⟨MM, eMM⟩ : ∃ MM, ((2 ^ k : Nat) : Int) = MM := ⟨_, rfl⟩
          rw [eMM] at Q cj q2 hM0 hM9
          (try rw [eMM] at q0)
          (try rw [eMM] at q1)
          have Hst := Lib.hid hst; clear hst
          have Cj := Lib.hid cj; clear cj
          have Hr := Lib.hid hr; clear hr
          have Hrc := Lib.hid hrc; clear hrc
          have Hsn2 := Lib.hid hsn2; clear hsn2
          have EMM := Lib.hid eMM; clear eMM
          go_wp2_with fail
          with_reducible (refine (Cj.out _).mono ?_)
          rintro e w3 ⟨hb3, v, rfl, O3⟩
          obtain ⟨g3, d3, rfl, hg3, hlt3, hnews⟩ := O3.at hpos
          replace S := (S.alloc (.cells #[.int .i64 (↑x + MM), .int .i64 (↑y + MM), .int .i64 MM] 81)).bl hb3
          replace Q := (Q.alloc (.cells #[.int .i64 (↑x + MM), .int .i64 (↑y + MM), .int .i64 MM] 81)).bl hb3
          replace O := (O.bl (bl_alloc _ (.cells #[.int .i64 (↑x + MM), .int .i64 (↑y + MM), .int .i64 MM] 81))).bl hb3
          obtain ⟨_, hown⟩ := O.own
          have hS := S.size
          have hlc := leafCells_len true LT
          have hQ := Q.lt
          clear hb3 O3 hg3 q0 q1 q2
          go_wp2_with (at_builtin; refine wpList_append_lies _ rfl _ _ 71 rfl w.heap.size 83 i0 _ 5 48 Try.underlying71 hi hz0 hz1 hz2 rfl (by decide) (.slice q (lvN k x y p l).length d) (lvN k x y p l).length _ rfl hown ⟨g3, 0, none⟩ LT.length d3 (leafCells true LT) rfl hlc hnews (leaf_ones _ _) hpos (by simp [maxLen]; omega) (by omega) hS _ rfl ?_; intro g' cap w4 hown4 hgr hat hlt4)
          have S4 : Since w w4 := ⟨below_own S.below hgr (own_ge hown) hS⟩
          have Q4 := Q.grown hgr (fun e => hne bq e.symm rfl)
          have hne4 : ∀ b, (Value.slice (some ⟨g', 0, none⟩) ((lvN k x y p l).length + LT.length) cap).ownBlock = some b → b ≠ bq := by
            intro b e
            simp only [Value.ownBlock, Option.some.injEq] at e
            subst e
            rcases hat with h | h
            · exact hne _ h
            · omega
          have O4 := rs_append O hown4
          go_roundw
          case rel =>
            refine ⟨4, 4, l ++ [T], m2, by omega, rfl, rfl, rfl, Hst.out, ?_, S4, by rw [EMM.out]; exact Q4, hne4⟩
            rw [Hsn2.out]
            exact O4
          case measure => simp [intOf]
    · obtain rfl : j = 4 := by omega
      obtain rfl : ji = 4 := by omega
      obtain ⟨a, b, c, d4, m0, m1, m2, rfl, _, _, _, _⟩ := rcN_four hrc
      have hW := Hwh.out a b c d4 m hrc
      have h4 := whole_four (a := a) (b := b) (c := c) (d := d4)
      rw [← hW] at h4
      have hnm : n ≤ m := by omega
      have hnm1 : (n : Int) ≤ (m : Int) := by omega
      have n2 := Hno2.out a b c d4 m hrc
      have y2 := Hyes.out a b c d4 m hrc
      have lv := Hlvn.out a b c d4
      by_cases hms : m < t.size
      · have e4 : t.data[m]? = some t[m] := Array.getElem?_eq_getElem hms
        have hms1 : (m : Int) < (t.size : Int) := by omega
        have hms2 : decide ((t.size : Int) ≤ (m : Int)) = false := by rw [decide_eq_false_iff_not]; omega
        by_cases h5 : t[m] = 41
        · have t5 : ((t[m].toNat : Int) != 41) = false := by rw [h5]; rfl
          have f1 : ((t.extract n m).toList == [40, 35, 35, 35, 35]) = decide (t.extract n m = bytesOf [40, 35, 35, 35, 35]) := bytes_is _ _
          have f2 : ((t.extract n m).toList == [40, 46, 46, 46, 46]) = decide (t.extract n m = bytesOf [40, 46, 46, 46, 46]) := bytes_is _ _
          cases g1 : decide (t.extract n m = bytesOf [40, 35, 35, 35, 35]) with
          | true =>
            rw [g1] at f1 h4
            have hn3 := n2 (.inr (by rw [h4]; rfl))
            clear f2 g1 hW
            have Hn3 := Lib.hid hn3; clear hn3
            have Y2 := Lib.hid y2; clear y2
            have N2 := Lib.hid n2; clear n2
            have Lv := Lib.hid lv; clear lv
            have E4 := Lib.hid e4; clear e4
            have H4 := Lib.hid h4; clear h4
            have H5 := Lib.hid h5; clear h5
            have Hrc := Lib.hid hrc; clear hrc
            go_wp2
            go_ret2
            exact ⟨S.below, _, by rw [Hn3.out.1]; rfl, by rw [Hn3.out.2]; exact OwnLeaves.nil _ _⟩
          | false =>
            rw [g1] at f1 h4
            cases g2 : decide (t.extract n m = bytesOf [40, 46, 46, 46, 46]) with
            | true =>
              rw [g2] at f2 h4
              have hn3 := n2 (.inr (by rw [h4]; rfl))
              clear g1 g2 hW
              have Hn3 := Lib.hid hn3; clear hn3
              have Y2 := Lib.hid y2; clear y2
              have N2 := Lib.hid n2; clear n2
              have Lv := Lib.hid lv; clear lv
              have E4 := Lib.hid e4; clear e4
              have H4 := Lib.hid h4; clear h4
              have H5 := Lib.hid h5; clear h5
              have Hrc := Lib.hid hrc; clear hrc
              go_wp2
              go_ret2
              exact ⟨S.below, _, by rw [Hn3.out.1]; rfl, by rw [Hn3.out.2]; exact OwnLeaves.nil _ _⟩
            | false =>
              rw [g2] at f2 h4
              have hy3 := y2 (by rw [e4, h5]) (by rw [h4]; rfl)
              clear g1 g2 hW
              have Hy3 := Lib.hid hy3; clear hy3
              have Y2 := Lib.hid y2; clear y2
              have N2 := Lib.hid n2; clear n2
              have Lv := Lib.hid lv; clear lv
              have E4 := Lib.hid e4; clear e4
              have H4 := Lib.hid h4; clear h4
              have H5 := Lib.hid h5; clear h5
              have Hrc := Lib.hid hrc; clear hrc
              go_wp2
              go_ret2
              exact ⟨S.below, _, by rw [Hy3.out.1]; rfl, by rw [Hy3.out.2, ← Lv.out]; exact O⟩
        · have t5 : ((t[m].toNat : Int) != 41) = true := byte_ne h5
          have hn3 := n2 (.inl (by rw [e4]; simpa using h5))
          clear hW h4
          have Hn3 := Lib.hid hn3; clear hn3
          have Y2 := Lib.hid y2; clear y2
          have N2 := Lib.hid n2; clear n2
          have Lv := Lib.hid lv; clear lv
          have E4 := Lib.hid e4; clear e4
          have H5 := Lib.hid h5; clear h5
          have Hrc := Lib.hid hrc; clear hrc
          go_wp2
          go_ret2
          exact ⟨S.below, _, by rw [Hn3.out.1]; rfl, by rw [Hn3.out.2]; exact OwnLeaves.nil _ _⟩
      · have e4 : t.data[m]? = none := Array.getElem?_eq_none (by have : t.data.size = t.size := rfl; omega)
        have hms2 : decide ((t.size : Int) ≤ (m : Int)) = true := by rw [decide_eq_true_eq]; omega
        have hms3 : (t.size : Int) ≤ (m : Int) := by omega
        have hn3 := n2 (.inl (by rw [e4]; simp))
        clear hW h4
        have Hn3 := Lib.hid hn3; clear hn3
        have Y2 := Lib.hid y2; clear y2
        have N2 := Lib.hid n2; clear n2
        have Lv := Lib.hid lv; clear lv
        have E4 := Lib.hid e4; clear e4
        have Hrc := Lib.hid hrc; clear hrc
        go_wp2
        go_ret2
        exact ⟨S.below, _, by rw [Hn3.out.1]; rfl, by rw [Hn3.out.2]; exact OwnLeaves.nil _ _⟩
theorem readSquare_any (t : ByteArray) (ht : t.size ≤ maxLen) (k : Nat) (hk : k ≤ 4) : ∀ (n x y : Nat) (X Y s : Int) (p : ByteArray) (w : World), X = (x : Int) → Y = (y : Int) → s = ((2 ^ k : Nat) : Int) → n ≤ t.size → x + 2 ^ k ≤ 16 → y + 2 ^ k ≤ 16 → p.size + k ≤ 4 →
    Calls Try.prog 94 #[.string t, .int .i64 n, .agg #[.int .i64 X, .int .i64 Y, .int .i64 s], .string p] w (SqOut 83 t k n x y p w) := by
  induction k with
  | zero =>
    rintro n x y X Y s p w rfl rfl hs hn hx hy hp
    by_cases h : n < t.size
    · by_cases h35 : t[n] = 35
      · exact readSquare_leaf t 0 n x y s p true w ht hs h h35
      · by_cases h46 : t[n] = 46
        · exact readSquare_leaf t 0 n x y s p false w ht hs h h46
        · exact readSquare_no t 0 n x y s p w ht hs hn (.inr ⟨h, h35, h46, .inr rfl⟩)
    · exact readSquare_no t 0 n x y s p w ht hs hn (.inl (by omega))
  | succ k ih =>
    rintro n x y X Y s p w rfl rfl hs hn hx hy hp
    by_cases h : n < t.size
    · by_cases h35 : t[n] = 35
      · exact readSquare_leaf t (k + 1) n x y s p true w ht hs h h35
      · by_cases h46 : t[n] = 46
        · exact readSquare_leaf t (k + 1) n x y s p false w ht hs h h46
        · by_cases h40 : t[n] = 40
          · exact readSquare_node t k (ih (by omega)) n x y s p w ht hs hk h h40 hx hy hp
          · exact readSquare_no t (k + 1) n x y s p w ht hs hn (.inr ⟨h, h35, h46, .inl h40⟩)
    · exact readSquare_no t (k + 1) n x y s p w ht hs hn (.inl (by omega))
end Go.Proofs.Ytnenogpagkepfaa
