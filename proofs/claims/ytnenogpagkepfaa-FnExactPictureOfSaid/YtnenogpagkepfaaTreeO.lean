/- Contract of the program's ofTree: the image of a tree. -/
import Derived.Test.YtnenogpagkepfaaTreeQ2
import Derived.Test.YtnenogpagkepfaaImgOf
set_option linter.unusedVariables false
set_option linter.unusedSimpArgs false
namespace Go.Proofs.Ytnenogpagkepfaa
open Go.RowKit

/-- The pixels behind the painting of a leaf; of r rows of it and c pixels more. -/
def pq (W : Nat) (f : Nat → Bool) (q : QLeaf) (i : Nat) : Bool := if q.x ≤ i % W ∧ i % W < q.x + q.side ∧ q.y ≤ i / W ∧ i / W < q.y + q.side then q.black else f i
def pr (W : Nat) (f : Nat → Bool) (q : QLeaf) (r c : Nat) (i : Nat) : Bool := if q.x ≤ i % W ∧ i % W < q.x + q.side ∧ q.y ≤ i / W ∧ (i / W < q.y + r ∨ (i / W = q.y + r ∧ i % W < q.x + c)) then q.black else f i
theorem ite_iff {p q : Prop} [Decidable p] [Decidable q] (h : p ↔ q) (a b : Bool) : (if p then a else b) = if q then a else b := by
  by_cases hp : p
  · rw [if_pos hp, if_pos (h.1 hp)]
  · rw [if_neg hp, if_neg (fun hq => hp (h.2 hq))]
theorem pr_start (W : Nat) (f : Nat → Bool) (q : QLeaf) (i : Nat) : f i = pr W f q 0 0 i := by
  rw [pr, if_neg (by omega)]
theorem pr_row (W : Nat) (f : Nat → Bool) (q : QLeaf) (r i : Nat) : pr W f q r q.side i = pr W f q (r + 1) 0 i := by
  unfold pr
  exact ite_iff (by omega) _ _
theorem pr_end (W : Nat) (f : Nat → Bool) (q : QLeaf) (i : Nat) : pr W f q q.side 0 i = pq W f q i := by
  unfold pr pq
  exact ite_iff (by omega) _ _
theorem pr_set {W : Nat} {f : Nat → Bool} {q : QLeaf} {r c i : Nat} (hx : q.x + c < W) (hc : c < q.side) : (if i = (q.y + r) * W + (q.x + c) then q.black else pr W f q r c i) = pr W f q r (c + 1) i := by
  unfold pr
  by_cases h : i = (q.y + r) * W + (q.x + c)
  · obtain ⟨e1, e2⟩ := at_mod (y := q.y + r) hx
    rw [if_pos h, h, e1, e2, if_pos (by omega)]
  · rw [if_neg h]
    refine ite_iff ?_ _ _
    have hd := Nat.div_add_mod i W
    have hne : ¬ (i / W = q.y + r ∧ i % W = q.x + c) := by
      rintro ⟨e1, e2⟩
      rw [e1, e2, Nat.mul_comm] at hd
      exact h hd.symm
    omega
def pl (W : Nat) (l : List QLeaf) : Nat → Bool := l.foldl (pq W) (fun _ => false)
theorem pl_take {W : Nat} {l : List QLeaf} {j : Nat} (h : j < l.length) (i : Nat) : pq W (pl W (l.take j)) (l.getD j noLeaf) i = pl W (l.take (j + 1)) i := by
  unfold pl
  rw [List.take_succ_eq_append_getElem h, List.foldl_append]
  simp [List.getD, List.getElem?_eq_getElem h]
theorem leaves_paint (W : Nat) : ∀ (k : Nat) (T : QT) (x y : Nat) (p : ByteArray) (f : Nat → Bool) (i : Nat), T.deep k = true → (T.leaves k x y p).foldl (pq W) f i = if x ≤ i % W ∧ i % W < x + 2 ^ k ∧ y ≤ i / W ∧ i / W < y + 2 ^ k then T.col k (i % W - x) (i / W - y) else f i := by
  intro k
  induction k with
  | zero =>
    intro T x y p f i h
    cases T with
    | leaf b => rfl
    | node a b c d => cases h
  | succ k ih =>
    intro T x y p f i h
    cases T with
    | leaf b => rfl
    | node a b c d =>
      simp only [QT.deep, Bool.and_eq_true] at h
      obtain ⟨⟨⟨ha, hb⟩, hc⟩, hd⟩ := h
      have hM : 2 ^ (k + 1) = 2 ^ k + 2 ^ k := by rw [Nat.pow_succ]; omega
      simp only [QT.leaves, List.foldl_append, Nat.add_sub_cancel]
      rw [ih d _ _ _ _ _ hd, ih c _ _ _ _ _ hc, ih b _ _ _ _ _ hb, ih a _ _ _ _ _ ha, QT.col, Nat.add_sub_cancel, hM]
      generalize i % W = u
      generalize i / W = v
      generalize 2 ^ k = M
      by_cases hu : u < x + M
      · by_cases hv : v < y + M
        · by_cases hin : x ≤ u ∧ y ≤ v
          · rw [if_neg (by omega), if_neg (by omega), if_neg (by omega), if_pos (by omega), if_pos (by omega), if_pos (by omega), if_pos (by omega)]
          · rw [if_neg (by omega), if_neg (by omega), if_neg (by omega), if_neg (by omega), if_neg (by omega)]
        · by_cases hin : x ≤ u ∧ v < y + (M + M)
          · rw [if_neg (by omega), if_pos (by omega), if_pos (by omega), if_neg (by omega), if_pos (by omega), Nat.sub_sub]
          · rw [if_neg (by omega), if_neg (by omega), if_neg (by omega), if_neg (by omega), if_neg (by omega)]
      · by_cases hv : v < y + M
        · by_cases hin : u < x + (M + M) ∧ y ≤ v
          · rw [if_neg (by omega), if_neg (by omega), if_pos (by omega), if_pos (by omega), if_pos (by omega), if_neg (by omega), Nat.sub_sub]
          · rw [if_neg (by omega), if_neg (by omega), if_neg (by omega), if_neg (by omega), if_neg (by omega)]
        · by_cases hin : u < x + (M + M) ∧ v < y + (M + M)
          · rw [if_pos (by omega), if_pos (by omega), if_neg (by omega), if_neg (by omega), Nat.sub_sub, Nat.sub_sub]
          · rw [if_neg (by omega), if_neg (by omega), if_neg (by omega), if_neg (by omega), if_neg (by omega)]
theorem pl_tree {n : Int} {s : ByteArray} (h : treeV n s = true) {i : Nat} (hi : i < 2 ^ lg n * 2 ^ lg n) : pl (2 ^ lg n) (treeLv n s) i = treeF n s i := by
  obtain ⟨_, T, hp, hc, hd⟩ := treeV_is h
  have hw := pow_pos2 (lg n)
  have h1 : i % 2 ^ lg n < 2 ^ lg n := Nat.mod_lt _ hw
  have h2 : i / 2 ^ lg n < 2 ^ lg n := by rw [Nat.div_lt_iff_lt_mul hw]; exact hi
  rw [pl, lv_tree hp hc, leaves_paint _ _ _ _ _ _ _ _ hd, if_pos ⟨Nat.zero_le _, by rw [Nat.zero_add]; exact h1, Nat.zero_le _, by rw [Nat.zero_add]; exact h2⟩, treeF, hp]
  simp only [Nat.sub_zero]
/-- What ofTree answers. -/
def OfOut (n : Int) (s : ByteArray) (w : World) (e : Ending) (w' : World) : Prop :=
  Below w.heap.size w w' ∧ ((treeV n s = false ∧ e = .returned (.tuple #[.pointer none, .bool false])) ∨
    (treeV n s = true ∧ ∃ m g, e = .returned (.tuple #[.pointer (some ⟨m, 0, none⟩), .bool true]) ∧ Img w' m g (2 ^ lg n) (2 ^ lg n) (treeF n s) ∧ w.heap.size ≤ m ∧ w.heap.size ≤ g))
/-- The loops of ofTree. -/
structure OtRel (w w1 : World) (m g N : Nat) (f : Nat → Bool) (wr : World) : Prop where
  img : Img wr m g N N f
  since : Since w wr
  below : Below w1.heap.size w1 wr
def OtX (w w1 : World) (m g N : Nat) (f : Nat → Bool) (q : QLeaf) (r lb : Nat) (cs : Array Value) (T : TypeId) (i : Value) (wr : World) : Prop := ∃ c : Nat, c ≤ q.side ∧ i = .int .i64 c ∧ OtRel w w1 m g N (pr N f q r c) wr ∧ Blk wr lb cs T
def OtY (w w1 : World) (m g N : Nat) (f : Nat → Bool) (q : QLeaf) (lb : Nat) (cs : Array Value) (T : TypeId) (i : Value) (wr : World) : Prop := ∃ r : Nat, r ≤ q.side ∧ i = .int .i64 r ∧ OtRel w w1 m g N (pr N f q r 0) wr ∧ Blk wr lb cs T
set_option maxRecDepth 100000 in
set_option maxHeartbeats 4000000 in
theorem ofTree_any (n : Int) (s : ByteArray) (w : World) (hs : s.size ≤ maxLen) :
    Calls Try.prog 69 #[.agg #[.int .i64 n, .string s]] w (OfOut n s w) := by
  have V := TreeVar.new w n s
  have S := (Since.refl w).alloc (.cells #[.int .i64 n, .string s] 26)
  have c0 := fun w => leavesOf_any n s w hs
  unfold LvOut at c0
  cases hv : treeV n s
  · simp only [hv] at c0
    have hr : ∀ w', Below w.heap.size w w' → OfOut n s w (.returned (.tuple #[.pointer none, .bool false])) w' := fun w' h => ⟨h, .inl ⟨hv, rfl⟩⟩
    have C0 := Lib.hid c0; clear c0
    have Hv := Lib.hid hv; clear hv
    have Hr := Lib.hid hr; clear hr
    clear V
    go_enter Try.func69, Try.ntmps69
    go_wp2_with fail
    with_reducible (refine (C0.out _).mono ?_)
    rintro e w1 ⟨hb, v, L, rfl, O, hL⟩
    obtain ⟨q, d, rfl⟩ := O.form
    replace S := S.bl hb
    clear hb O hL
    go_wp2
    go_ret2
    exact Hr.out _ S.below
  · simp only [hv] at c0
    have lok := treeLv_ok hv
    have hl1 := lok.pos
    have hl2 := lok.len
    have hpl := fun i hi => pl_tree (i := i) hv hi
    have hfit : ∀ i, i < (treeLv n s).length → ((treeLv n s).getD i noLeaf).x + ((treeLv n s).getD i noLeaf).side ≤ 2 ^ lg n ∧ ((treeLv n s).getD i noLeaf).y + ((treeLv n s).getD i noLeaf).side ≤ 2 ^ lg n := by
      obtain ⟨_, T, hp, hc, hd⟩ := treeV_is hv
      rw [lv_tree hp hc]
      intro i hi
      have := leaves_bd _ T 0 0 ByteArray.empty hd ((T.leaves (lg n) 0 0 ByteArray.empty).getD i noLeaf) (by simp [List.getD, List.getElem?_eq_getElem hi])
      unfold LeafIn at this
      omega
    obtain ⟨hn, hk⟩ := sideB_lg (treeV_is hv).1
    have hN := pow_le4 hk
    have hr : ∀ w' m g, Below w.heap.size w w' → Img w' m g (2 ^ lg n) (2 ^ lg n) (treeF n s) → w.heap.size ≤ m → w.heap.size ≤ g → OfOut n s w (.returned (.tuple #[.pointer (some ⟨m, 0, none⟩), .bool true])) w' := fun w' m g h I hm hg => ⟨h, .inr ⟨hv, m, g, rfl, I, hm, hg⟩⟩
    generalize treeF n s = F at *
    generalize treeLv n s = LV at *
    have c1 := fun w => blank_any (2 ^ lg n) (2 ^ lg n) w hN.1 hN.2 hN.1 hN.2
    rw [← hn] at c1
    generalize 2 ^ lg n = N at *
    obtain ⟨hN1, hN2⟩ := hN
    have hn1 : n ≤ (N : Int) := by omega
    have hn2 : (N : Int) ≤ n := by omega
    have C0 := Lib.hid c0; clear c0
    have Hv := Lib.hid hv; clear hv
    have Hr := Lib.hid hr; clear hr
    have Hpl := Lib.hid hpl; clear hpl
    have Hfit := Lib.hid hfit; clear hfit
    have C1 := Lib.hid c1; clear c1
    have Hn := Lib.hid hn; clear hn
    clear lok
    go_enter Try.func69, Try.ntmps69
    go_wp2_with fail
    with_reducible (refine (C0.out _).mono ?_)
    rintro e w1 ⟨hb, v, L, rfl, O, hL⟩
    have hL2 : L = LV := hL (by trivial)
    subst hL2
    obtain ⟨p, d, rfl⟩ := O.form
    have R := O.rd
    replace S := S.bl hb
    replace V := V.bl hb
    have x0 := V.c0
    have hsz1 := S.size
    clear hb O hL V
    go_wp2_with fail
    with_reducible (refine (C1.out _).mono ?_)
    rintro e w2 ⟨m, g, rfl, I, hm, hg, hb⟩
    have I0 := I.congr (f' := pl N (L.take 0)) (fun i _ => by simp [pl])
    have J0 : OtRel w w1 m g N (pl N (L.take 0)) w2 := ⟨I0, S.bl hb, hb⟩
    clear I I0 hb S x0
    go_wp2_with fail
    go_loopw [25] (fun i wr => ∃ j : Nat, j ≤ L.length ∧ i = .int .i64 j ∧ OtRel w w1 m g N (pl N (L.take j)) wr) (fun i _ => L.length - (intOf i).toNat)
    case atStart => exact ⟨0, Nat.zero_le _, rfl, J0⟩
    case round =>
      clear J0
      obtain ⟨j, hj, rfl, J⟩ := hrel
      have hj0 : (0 : Int) ≤ (j : Int) := Int.natCast_nonneg _
      by_cases hlt : j < L.length
      · have hj1 : (j : Int) < (L.length : Int) := by omega
        obtain ⟨wo, rfl⟩ : ∃ wo : World, wo = wr := ⟨_, rfl⟩
        obtain ⟨f1, f2⟩ := Hfit.out j hlt
        obtain ⟨b, o, rfl, hbl, x0, x1, x2, x3, x4⟩ := leaf_cells (R.bl J.below) hlt
        simp only [if_true] at x3
        have hpt := fun i => pl_take (W := N) hlt i
        generalize pl N (L.take j) = f at *
        generalize L.getD j noLeaf = q at *
        have hqs : q.side ≤ 16 := by omega
        have hqx : q.x ≤ 16 := by omega
        have hqy : q.y ≤ 16 := by omega
        have B0 := Blk.new wo #[.int .i64 q.x, .int .i64 q.y, .int .i64 q.side, .bool q.black, .string q.addr] 83
        have hya := bl_alloc wo (.cells #[.int .i64 q.x, .int .i64 q.y, .int .i64 q.side, .bool q.black, .string q.addr] 83)
        have J1 : OtRel w w1 m g N (pr N f q 0 0) (wo.alloc (.cells #[.int .i64 q.x, .int .i64 q.y, .int .i64 q.side, .bool q.black, .string q.addr] 83)) := ⟨(J.img.bl hya).congr (fun i _ => pr_start N f q i), J.since.bl hya, J.below.trans (hya.mono J.below.size)⟩
        have hglt := J.img.lt.2
        have hx0' : (0 : Int) ≤ (q.x : Int) := Int.natCast_nonneg _
        have hy0' : (0 : Int) ≤ (q.y : Int) := Int.natCast_nonneg _
        have hs0' : (0 : Int) ≤ (q.side : Int) := Int.natCast_nonneg _
        have hgb : g ≠ wo.heap.size := by omega
        have y2 := B0.cell 2 rfl
        have Hpt := Lib.hid hpt; clear hpt
        clear J
        go_wp2_with fail
        go_loopw [32] (fun i wr2 => OtY w w1 m g N f q wo.heap.size #[.int .i64 q.x, .int .i64 q.y, .int .i64 q.side, .bool q.black, .string q.addr] 83 i wr2) (fun i _ => q.side - (intOf i).toNat)
        case atStart => exact ⟨0, Nat.zero_le _, rfl, J1, B0⟩
        case round =>
          clear J1 B0 y2 x0 x1 x2 x3 x4 hya
          obtain ⟨r, hr2, rfl, J, B⟩ := hrel
          have hr0 : (0 : Int) ≤ (r : Int) := Int.natCast_nonneg _
          have y2 := B.cell 2 rfl
          by_cases hrs : r < q.side
          · have hr1 : (r : Int) < (q.side : Int) := by omega
            go_wp2_with fail
            go_loopw [38] (fun i wr3 => OtX w w1 m g N f q r wo.heap.size #[.int .i64 q.x, .int .i64 q.y, .int .i64 q.side, .bool q.black, .string q.addr] 83 i wr3) (fun i _ => q.side - (intOf i).toNat)
            case atStart => exact ⟨0, Nat.zero_le _, rfl, J, B⟩
            case round =>
              clear J B y2
              obtain ⟨c, hc2, rfl, J, B⟩ := hrel
              have hc0 : (0 : Int) ≤ (c : Int) := Int.natCast_nonneg _
              have y0 := B.cell 0 rfl
              have y1 := B.cell 1 rfl
              have y2 := B.cell 2 rfl
              have y3 := B.cell 3 rfl
              by_cases hcs : c < q.side
              · have hc1 : (c : Int) < (q.side : Int) := by omega
                have c2 := set_any m g N N _ ((q.x : Int) + c) ((q.y : Int) + r) q.black _ J.img (by omega) (by omega) (by omega) (by omega)
                have e1 : ((q.y : Int) + r).toNat = q.y + r := by omega
                have e2 : ((q.x : Int) + c).toNat = q.x + c := by omega
                rw [e1, e2] at c2
                have w1' : IntKind.i64.wrap ((q.x : Int) + c) = (q.x : Int) + c := IntWalk.i64_in _ (by omega)
                have w2' : IntKind.i64.wrap ((q.y : Int) + r) = (q.y : Int) + r := IntWalk.i64_in _ (by omega)
                have I2 := ((J.img.set ((q.y + r) * N + (q.x + c)) q.black).drewN 1).congr (f' := pr N f q r (c + 1)) (fun i _ => pr_set (by omega) hcs)
                have B2 := (B.other (a := ⟨g, (q.y + r) * N + (q.x + c), none⟩) (fun e => hgb (by simpa using e.symm)) (.bool q.black)).drew 1
                have S2 := (J.since.set (b := g) (by omega) ((q.y + r) * N + (q.x + c)) (.bool q.black)).bl (bl_drew' _)
                have L2 : Below w1.heap.size w1 _ := (J.below.setCell (p := ⟨g, (q.y + r) * N + (q.x + c), none⟩) (by simpa using hg) (.bool q.black)).drew
                have C2 := Lib.hid c2; clear c2
                clear J B
                go_wp2_with fail
                with_reducible (refine C2.out.mono ?_)
                rintro e w3 ⟨rfl, rfl⟩
                go_wp2
                go_roundw
                case rel => unfold OtX; exact ⟨c + 1, by omega, by go_num, ⟨I2, S2, L2⟩, B2⟩
                case measure => simp [intOf]; omega
              · obtain rfl : c = q.side := by omega
                have J2 : OtRel w w1 m g N (pr N f q (r + 1) 0) _ := ⟨J.img.congr (fun i _ => pr_row N f q r i), J.since, J.below⟩
                clear J
                go_wp2
                go_roundw
                case rel => unfold OtY; exact ⟨r + 1, by omega, by go_num, J2, B⟩
                case measure => simp [intOf]; omega
          · obtain rfl : r = q.side := by omega
            have J2 : OtRel w w1 m g N (pl N (L.take (j + 1))) _ := ⟨J.img.congr (fun i _ => by rw [pr_end, Hpt.out]), J.since, J.below⟩
            clear J
            go_wp2
            go_roundw
            case rel => exact ⟨j + 1, by omega, by go_num, J2⟩
            case measure => simp [intOf]; omega
      · obtain rfl : j = L.length := by omega
        rw [List.take_of_length_le (Nat.le_refl _)] at J
        have IF := J.img.congr (f' := F) (fun i hi => Hpl.out i hi)
        have SF := J.since
        clear J
        go_wp2
        go_ret2
        exact Hr.out _ _ _ SF.below IF (by omega) (by omega)
end Go.Proofs.Ytnenogpagkepfaa
