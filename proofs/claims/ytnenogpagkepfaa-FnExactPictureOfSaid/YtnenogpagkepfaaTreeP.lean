/- Contracts of the program's PictureOf, of both BlackArea, of both InvertTree. -/
import Derived.Test.YtnenogpagkepfaaTreeO
import Derived.Test.YtnenogpagkepfaaTreeTo
import Derived.Test.YtnenogpagkepfaaTold
import Derived.Test.YtnenogpagkepfaaSpots
import Derived.Test.YtnenogpagkepfaaSpecInv
import Derived.Test.YtnenogpagkepfaaImplInv
set_option linter.unusedVariables false
set_option linter.unusedSimpArgs false
namespace Go.Proofs.Ytnenogpagkepfaa
open Go.RowKit

theorem pf_congr {W H : Nat} {f g : Nat → Bool} (h : ∀ i, i < W * H → f i = g i) (x y : Nat) : pf W H f x y = pf W H g x y := px_congr h _ _
theorem qt_pf {k W H : Nat} {f g : Nat → Bool} (h : ∀ i, i < W * H → f i = g i) : qt k (pf W H f) 0 0 = qt k (pf W H g) 0 0 := by
  rw [show pf W H f = pf W H g from funext fun x => funext fun y => pf_congr h x y]
theorem toT_render {k W H : Nat} {g : Nat → Bool} (hH : 1 ≤ H) : toT k (render W H g) = bytesOf (qt k (pf W H g) 0 0).print := by
  rw [toT, wid_render hH, render_len]
  rw [show pf W H (bits (render W H g)) = pf W H g from funext fun x => funext fun y => px_render hH _ _]
/-- The black pixels of a tree; the tree turned. -/
def baN (n : Int) (s : ByteArray) : Int := if treeV n s then ((spotsTo (2 ^ lg n) (treeF n s) (2 ^ lg n * 2 ^ lg n)).length : Int) else 0
def ivT (n : Int) (s : ByteArray) : ByteArray := bytesOf (qt (lg n) (pf (2 ^ lg n) (2 ^ lg n) (fun i => !treeF n s i)) 0 0).print
def ivN (n : Int) (s : ByteArray) : Int := if treeV n s then n else 0
def ivS (n : Int) (s : ByteArray) : ByteArray := if treeV n s then ivT n s else ByteArray.empty
theorem ba_no {n : Int} {s : ByteArray} (h : treeV n s = false) : baN n s = 0 := by rw [baN, h]; rfl
theorem ba_yes {n : Int} {s : ByteArray} (h : treeV n s = true) : baN n s = ((spotsTo (2 ^ lg n) (treeF n s) (2 ^ lg n * 2 ^ lg n)).length : Int) := by rw [baN, h]; rfl
theorem iv_no {n : Int} {s : ByteArray} (h : treeV n s = false) : ivN n s = 0 ∧ ivS n s = ByteArray.empty := by rw [ivN, ivS, h]; exact ⟨rfl, rfl⟩
theorem iv_yes {n : Int} {s : ByteArray} (h : treeV n s = true) : ivN n s = n ∧ ivS n s = ivT n s := by rw [ivN, ivS, h]; exact ⟨rfl, rfl⟩
theorem spots_congr {W : Nat} {f g : Nat → Bool} : ∀ n, (∀ i, i < n → f i = g i) → spotsTo W f n = spotsTo W g n := by
  intro n
  induction n with
  | zero => intro _; rfl
  | succ n ih =>
    intro h
    have h1 := ih (fun i hi => h i (by omega))
    have h2 := h n (by omega)
    rw [spotsTo_succ, spotsTo_succ, h1, h2]
theorem tree_bits (n : Int) (s : ByteArray) : wid (treeL n s) = 2 ^ lg n ∧ (treeL n s).length = 2 ^ lg n ∧ ∀ i, i < 2 ^ lg n * 2 ^ lg n → bits (treeL n s) i = treeF n s i := by
  have hk := pow_le4 (lg_le n)
  refine ⟨wid_render hk.1, render_len _ _ _, fun i hi => bits_render hk.1 hi⟩
set_option maxHeartbeats 2000000 in
theorem pictureOf_any (n : Int) (s : ByteArray) (w : World) (hs : s.size ≤ maxLen) :
    Calls Try.prog 48 #[.agg #[.int .i64 n, .string s]] w fun e w' => ∃ v, e = .returned (.tuple #[.agg #[v], .bool (treeV n s)]) ∧ OwnStrs w.heap.size w' v (picIf (treeV n s) (treeL n s)) ∧ Below w.heap.size w w' := by
  have V := (TreeVar.new w n s).bl (bl_alloc _ (.cells #[.slice none 0 0] 38))
  have S := ((Since.refl w).alloc (.cells #[.int .i64 n, .string s] 26)).alloc (.cells #[.slice none 0 0] 38)
  have B := Box.new (w.alloc (.cells #[.int .i64 n, .string s] 26)) (.slice none 0 0) 38
  simp only [World.size_alloc] at B
  have c0 := fun w => ofTree_any n s w hs
  unfold OfOut at c0
  have x0 := V.c0
  have x1 := V.c1
  cases hv : treeV n s
  · have hp : picIf false (treeL n s) = [] := rfl
    rw [hp]
    simp only [hv, true_and, Bool.false_eq_true, false_and, or_false] at c0
    have C0 := Lib.hid c0; clear c0
    have Hv := Lib.hid hv; clear hv
    have Hp := Lib.hid hp; clear hp
    go_enter Try.func48, Try.ntmps48
    go_wp2_with fail
    with_reducible (refine (C0.out _).mono ?_)
    rintro e w1 ⟨hb, rfl⟩
    replace S := S.bl hb
    replace B := B.bl hb
    have b0 := B.cell
    have b1 := B.frozen
    have hlt := B.lt
    have e0 := (B.set (.slice none 0 0)).cell
    have SF := S.set (b := w.heap.size + 1) (by omega) 0 (.slice none 0 0)
    clear hb V x0 x1
    go_wp2
    refine bodyPost_ret (v := .tuple #[.agg #[.slice none 0 0], .bool false]) (by simp [results, Try.results48, go_sem, e0]) rfl ⟨_, rfl, OwnStrs.nil _ _, SF.below⟩
  · have hp : picIf true (treeL n s) = treeL n s := rfl
    rw [hp]
    simp only [hv, true_and, Bool.true_eq_false, false_and, false_or] at c0
    have hL : treeL n s = render (2 ^ lg n) (2 ^ lg n) (treeF n s) := rfl
    have c1 := fun m g w' (I : Img w' m g (2 ^ lg n) (2 ^ lg n) (treeF n s)) => told_any m g _ _ _ w' I
    rw [← hL] at c1
    generalize treeL n s = TL at *
    have C0 := Lib.hid c0; clear c0
    have Hv := Lib.hid hv; clear hv
    have Hp := Lib.hid hp; clear hp
    have C1 := Lib.hid c1; clear c1
    have HL := Lib.hid hL; clear hL
    go_enter Try.func48, Try.ntmps48
    go_wp2_with fail
    with_reducible (refine (C0.out _).mono ?_)
    rintro e w1 ⟨hb, m, g, rfl, I, hm, hg⟩
    replace S := S.bl hb
    replace B := B.bl hb
    have hne := B.lt
    clear hb V x0 x1
    go_wp2_with fail
    with_reducible (refine (C1.out _ _ _ I).mono ?_)
    rintro e w2 ⟨v, rfl, O, hb⟩
    obtain ⟨q, d, rfl⟩ := O.form
    have O2 := O.mono S.size
    replace B := B.bl hb
    have hge := O.ge
    have hlt0 := S.size
    have hzz := B.lt
    replace S := S.bl hb
    have b0 := B.cell
    have b1 := B.frozen
    have e0 := (B.set (.slice q TL.length d)).cell
    have SF := S.set (b := w.heap.size + 1) (by omega) 0 (.slice q TL.length d)
    have hlt1 := (S.size)
    have O3 := (O.other (a := ⟨w.heap.size + 1, 0, none⟩) (fun k hk e => by have := (hge k hk).1; simp at this e; omega) (.slice q TL.length d)).mono (B' := w.heap.size) hlt0
    clear hb I O
    go_wp2
    refine bodyPost_ret (v := .tuple #[.agg #[.slice q TL.length d], .bool true]) (by simp [results, Try.results48, go_sem, e0]) rfl ⟨_, rfl, O3, SF.below⟩
set_option maxHeartbeats 2000000 in
theorem blackArea_any (n : Int) (s : ByteArray) (w : World) (hs : s.size ≤ maxLen) :
    Calls Try.prog 29 #[.agg #[.int .i64 n, .string s]] w fun e w' => e = .returned (.tuple #[.int .i64 (baN n s), .bool (treeV n s)]) ∧ Below w.heap.size w w' := by
  have V := TreeVar.new w n s
  have S := (Since.refl w).alloc (.cells #[.int .i64 n, .string s] 26)
  have c0 := fun w => ofTree_any n s w hs
  unfold OfOut at c0
  have x0 := V.c0
  have x1 := V.c1
  clear V
  cases hv : treeV n s
  · have hb := ba_no hv
    rw [hb]
    simp only [hv, true_and, Bool.false_eq_true, false_and, or_false] at c0
    have C0 := Lib.hid c0; clear c0
    have Hv := Lib.hid hv; clear hv
    have Hb := Lib.hid hb; clear hb
    go_enter Try.func29, Try.ntmps29
    go_wp2_with fail
    with_reducible (refine (C0.out _).mono ?_)
    rintro e w1 ⟨hb, rfl⟩
    replace S := S.bl hb
    clear hb x0 x1
    go_wp2
    go_ret2
    exact ⟨rfl, S.below⟩
  · have hb := ba_yes hv
    simp only [hv, true_and, Bool.true_eq_false, false_and, false_or] at c0
    have c1 := fun m g w' (I : Img w' m g (2 ^ lg n) (2 ^ lg n) (treeF n s)) => count_any m g _ _ _ w' I
    rw [← hb] at c1
    generalize baN n s = BA at *
    have C0 := Lib.hid c0; clear c0
    have Hv := Lib.hid hv; clear hv
    have Hb := Lib.hid hb; clear hb
    have C1 := Lib.hid c1; clear c1
    go_enter Try.func29, Try.ntmps29
    go_wp2_with fail
    with_reducible (refine (C0.out _).mono ?_)
    rintro e w1 ⟨hb, m, g, rfl, I, hm, hg⟩
    replace S := S.bl hb
    clear hb x0 x1
    go_wp2_with fail
    with_reducible (refine (C1.out _ _ _ I).mono ?_)
    rintro e w2 ⟨rfl, hb⟩
    replace S := S.bl hb
    clear hb I
    go_wp2
    go_ret2
    exact ⟨rfl, S.below⟩
set_option maxHeartbeats 2000000 in
theorem sBlackArea_any (n : Int) (s : ByteArray) (w : World) (hs : s.size ≤ maxLen) :
    Calls Try.prog 28 #[.agg #[.int .i64 n, .string s]] w fun e w' => e = .returned (.tuple #[.int .i64 (baN n s), .bool (treeV n s)]) ∧ Below w.heap.size w w' := by
  have V := TreeVar.new w n s
  have S := (Since.refl w).alloc (.cells #[.int .i64 n, .string s] 26)
  have c0 := l02Open_any w.heap.size n s _ V hs
  unfold OpenOut at c0
  clear V
  cases hv : treeV n s
  · have hb := ba_no hv
    rw [hb]
    simp only [hv] at c0
    have C0 := Lib.hid c0; clear c0
    have Hv := Lib.hid hv; clear hv
    have Hb := Lib.hid hb; clear hb
    go_enter Try.func28, Try.ntmps28
    go_wp2_with fail
    with_reducible (refine C0.out.mono ?_)
    rintro e w1 ⟨hb, v, L, rfl, O, hL⟩
    obtain ⟨q, d, rfl⟩ := O.form
    replace S := (S.bl hb).alloc (.cells #[.slice q L.length d] 38)
    clear hb hL O
    go_wp2
    go_ret2
    exact ⟨rfl, S.below⟩
  · have hb := ba_yes hv
    simp only [hv] at c0
    have hok := treeL_ok n s
    obtain ⟨t1, t2, t3⟩ := tree_bits n s
    have c1 := fun a p c w' (P : PicAt w' a p c (treeL n s)) => l01Count_any a p c (treeL n s) w' P
    rw [t1, t2, spots_congr _ t3, ← hb] at c1
    generalize baN n s = BA at *
    generalize treeL n s = TL at *
    clear t1 t2 t3
    have C0 := Lib.hid c0; clear c0
    have Hv := Lib.hid hv; clear hv
    have Hb := Lib.hid hb; clear hb
    have C1 := Lib.hid c1; clear c1
    have Hok := Lib.hid hok; clear hok
    go_enter Try.func28, Try.ntmps28
    go_wp2_with fail
    with_reducible (refine C0.out.mono ?_)
    rintro e w1 ⟨hb, v, L, rfl, O, hL⟩
    obtain ⟨q, d, rfl⟩ := O.form
    have hL2 : L = TL := hL (by trivial)
    subst hL2
    have P : PicAt (w1.alloc (.cells #[.slice q L.length d] 38)) w1.heap.size q d L := ⟨Hok.out, by simp, O.rd.alloc _⟩
    replace S := (S.bl hb).alloc (.cells #[.slice q L.length d] 38)
    clear hb hL O
    go_wp2_with fail
    with_reducible (refine (C1.out _ _ _ _ P).mono ?_)
    rintro e w2 ⟨rfl, rfl⟩
    go_wp2
    go_ret2
    exact ⟨rfl, S.below⟩
set_option maxHeartbeats 2000000 in
theorem invertTree_any (n : Int) (s : ByteArray) (w : World) (hs : s.size ≤ maxLen) :
    Calls Try.prog 46 #[.agg #[.int .i64 n, .string s]] w fun e w' => e = .returned (.tuple #[.agg #[.int .i64 (ivN n s), .string (ivS n s)], .bool (treeV n s)]) ∧ Below w.heap.size w w' := by
  have V := (TreeVar.new w n s).bl (bl_alloc _ (.cells #[.int .i64 0, .string ⟨#[]⟩] 26))
  have S := ((Since.refl w).alloc (.cells #[.int .i64 n, .string s] 26)).alloc (.cells #[.int .i64 0, .string ⟨#[]⟩] 26)
  have B := Blk.new (w.alloc (.cells #[.int .i64 n, .string s] 26)) #[.int .i64 0, .string ⟨#[]⟩] 26
  simp only [World.size_alloc] at B
  have c0 := fun w => ofTree_any n s w hs
  unfold OfOut at c0
  have x0 := V.c0
  have x1 := V.c1
  clear V
  cases hv : treeV n s
  · obtain ⟨e1, e2⟩ := iv_no hv
    rw [e1, e2]
    simp only [hv, true_and, Bool.false_eq_true, false_and, or_false] at c0
    have C0 := Lib.hid c0; clear c0
    have Hv := Lib.hid hv; clear hv
    have E1 := Lib.hid e1; clear e1
    have E2 := Lib.hid e2; clear e2
    go_enter Try.func46, Try.ntmps46
    go_wp2_with fail
    with_reducible (refine (C0.out _).mono ?_)
    rintro e w1 ⟨hb, rfl⟩
    replace S := S.bl hb
    replace B := B.bl hb
    clear hb x0 x1
    have b0 := B.cell 0 rfl
    have b1 := B.cell 1 rfl
    have g0 := B.frozen 0
    have g1 := B.frozen 1
    have hlt := B.lt
    have F := (B.set2' (.int .i64 0) (.string ⟨#[]⟩))
    have f0 := F.cell 0 rfl
    have f1 := F.cell 1 rfl
    have SF := (S.set (b := w.heap.size + 1) (by omega) 0 (.int .i64 0)).set (b := w.heap.size + 1) (by omega) 1 (.string ⟨#[]⟩)
    go_wp2
    refine bodyPost_ret (v := .tuple #[.agg #[.int .i64 0, .string ⟨#[]⟩], .bool false]) (by simp [results, Try.results46, go_sem, f0, f1]) rfl ⟨rfl, SF.below⟩
  · obtain ⟨e1, e2⟩ := iv_yes hv
    rw [e1, e2]
    simp only [hv, true_and, Bool.true_eq_false, false_and, false_or] at c0
    obtain ⟨hn, hk⟩ := sideB_lg (treeV_is hv).1
    have c1 := fun m g w' (I : Img w' m g (2 ^ lg n) (2 ^ lg n) (treeF n s)) => inverted_any m g _ _ _ w' I
    have c2 := fun m g w' (I : Img w' m g (2 ^ lg n) (2 ^ lg n) (fun i => !treeF n s i)) => treeOf_any m g _ _ _ (lg n) w' I hk rfl
    have hT : ivT n s = bytesOf (qt (lg n) (pf (2 ^ lg n) (2 ^ lg n) (fun i => !treeF n s i)) 0 0).print := rfl
    rw [← hT, ← hn] at c2
    generalize ivT n s = T at *
    have C0 := Lib.hid c0; clear c0
    have Hv := Lib.hid hv; clear hv
    have E1 := Lib.hid e1; clear e1
    have E2 := Lib.hid e2; clear e2
    have C1 := Lib.hid c1; clear c1
    have C2 := Lib.hid c2; clear c2
    have Hn := Lib.hid hn; clear hn
    have HT := Lib.hid hT; clear hT
    go_enter Try.func46, Try.ntmps46
    go_wp2_with fail
    with_reducible (refine (C0.out _).mono ?_)
    rintro e w1 ⟨hb, m, g, rfl, I, hm, hg⟩
    replace S := S.bl hb
    replace B := B.bl hb
    clear hb x0 x1
    go_wp2_with fail
    with_reducible (refine (C1.out _ _ _ I).mono ?_)
    rintro e w2 ⟨m2, g2, rfl, I2, hb⟩
    replace S := S.bl hb
    replace B := B.bl hb
    clear hb I
    go_wp2_with fail
    with_reducible (refine (C2.out _ _ _ I2).mono ?_)
    rintro e w3 ⟨rfl, hb⟩
    replace S := S.bl hb
    replace B := B.bl hb
    clear hb I2
    have b0 := B.cell 0 rfl
    have b1 := B.cell 1 rfl
    have g0 := B.frozen 0
    have g1 := B.frozen 1
    have hlt := B.lt
    have F := (B.set2' (.int .i64 n) (.string T))
    have f0 := F.cell 0 rfl
    have f1 := F.cell 1 rfl
    have SF := (S.set (b := w.heap.size + 1) (by omega) 0 (.int .i64 n)).set (b := w.heap.size + 1) (by omega) 1 (.string T)
    go_wp2
    refine bodyPost_ret (v := .tuple #[.agg #[.int .i64 n, .string T], .bool true]) (by simp [results, Try.results46, go_sem, f0, f1]) rfl ⟨rfl, SF.below⟩
set_option maxHeartbeats 2000000 in
theorem sInvertTree_any (n : Int) (s : ByteArray) (w : World) (hs : s.size ≤ maxLen) :
    Calls Try.prog 45 #[.agg #[.int .i64 n, .string s]] w fun e w' => e = .returned (.tuple #[.agg #[.int .i64 (ivN n s), .string (ivS n s)], .bool (treeV n s)]) ∧ Below w.heap.size w w' := by
  have V := (TreeVar.new w n s).bl (bl_alloc _ (.cells #[.int .i64 0, .string ⟨#[]⟩] 26))
  have S := ((Since.refl w).alloc (.cells #[.int .i64 n, .string s] 26)).alloc (.cells #[.int .i64 0, .string ⟨#[]⟩] 26)
  have B := Blk.new (w.alloc (.cells #[.int .i64 n, .string s] 26)) #[.int .i64 0, .string ⟨#[]⟩] 26
  simp only [World.size_alloc] at B
  have c0 := l02Open_any w.heap.size n s _ V hs
  unfold OpenOut at c0
  clear V
  cases hv : treeV n s
  · obtain ⟨e1, e2⟩ := iv_no hv
    rw [e1, e2]
    simp only [hv] at c0
    have C0 := Lib.hid c0; clear c0
    have Hv := Lib.hid hv; clear hv
    have E1 := Lib.hid e1; clear e1
    have E2 := Lib.hid e2; clear e2
    go_enter Try.func45, Try.ntmps45
    go_wp2_with fail
    with_reducible (refine C0.out.mono ?_)
    rintro e w1 ⟨hb, v, L, rfl, O, hL⟩
    obtain ⟨q, d, rfl⟩ := O.form
    replace S := (S.bl hb).alloc (.cells #[.slice q L.length d] 38)
    replace B := (B.bl hb).alloc (.cells #[.slice q L.length d] 38)
    have hlt1 := B.lt
    have B1 := B
    have b0 := B.cell 0 rfl
    have b1 := B.cell 1 rfl
    have g0 := B.frozen 0
    have g1 := B.frozen 1
    have F := (B.set2' (.int .i64 0) (.string ⟨#[]⟩))
    have f0 := F.cell 0 rfl
    have f1 := F.cell 1 rfl
    have SF := (S.set (b := w.heap.size + 1) (by omega) 0 (.int .i64 0)).set (b := w.heap.size + 1) (by omega) 1 (.string ⟨#[]⟩)
    clear hb hL O
    go_wp2
    refine bodyPost_ret (v := .tuple #[.agg #[.int .i64 0, .string ⟨#[]⟩], .bool false]) (by simp [results, Try.results45, go_sem, f0, f1]) rfl ⟨rfl, SF.below⟩
  · obtain ⟨e1, e2⟩ := iv_yes hv
    rw [e1, e2]
    simp only [hv] at c0
    obtain ⟨hn, hk⟩ := sideB_lg (treeV_is hv).1
    have hN := pow_le4 hk
    have hok := treeL_ok n s
    obtain ⟨t1, t2, t3⟩ := tree_bits n s
    have c1 := fun a p c w' (P : PicAt w' a p c (treeL n s)) => l01Invert_any a p c (treeL n s) w' P
    rw [t1, t2] at c1
    obtain ⟨IL, eIL⟩ : ∃ L, render (2 ^ lg n) (2 ^ lg n) (fun i => !bits (treeL n s) i) = L := ⟨_, rfl⟩
    have hIok : okPic IL = true := by rw [← eIL]; exact okPic_render _ hN.1 hN.2 hN.1 hN.2
    have hIw : (wid IL : Int) = ((2 ^ lg n : Nat) : Int) := by rw [← eIL, wid_render hN.1]
    have hIT : toT (lg n) IL = ivT n s := by
      rw [← eIL, toT_render hN.1, ivT]
      rw [qt_pf (fun i hi => by rw [t3 i hi])]
    have c2 := fun a p c w' (P : PicAt w' a p c IL) => l02Tree_any a p c IL (lg n) w' P hk hIw
    rw [hIT, hIw, ← hn] at c2
    rw [eIL] at c1
    generalize ivT n s = T at *
    generalize treeL n s = TL at *
    clear t1 t2 t3 hN
    have C0 := Lib.hid c0; clear c0
    have Hv := Lib.hid hv; clear hv
    have E1 := Lib.hid e1; clear e1
    have E2 := Lib.hid e2; clear e2
    have C1 := Lib.hid c1; clear c1
    have C2 := Lib.hid c2; clear c2
    have Hok := Lib.hid hok; clear hok
    have HIok := Lib.hid hIok; clear hIok
    have Hn := Lib.hid hn; clear hn
    have HIw := Lib.hid hIw; clear hIw
    have HIT := Lib.hid hIT; clear hIT
    have EIL := Lib.hid eIL; clear eIL
    go_enter Try.func45, Try.ntmps45
    go_wp2_with fail
    with_reducible (refine C0.out.mono ?_)
    rintro e w1 ⟨hb, v, L, rfl, O, hL⟩
    obtain ⟨q, d, rfl⟩ := O.form
    have hL2 : L = TL := hL (by trivial)
    subst hL2
    have P : PicAt (w1.alloc (.cells #[.slice q L.length d] 38)) w1.heap.size q d L := ⟨Hok.out, by simp, O.rd.alloc _⟩
    replace S := (S.bl hb).alloc (.cells #[.slice q L.length d] 38)
    replace B := (B.bl hb).alloc (.cells #[.slice q L.length d] 38)
    clear hb hL O
    go_wp2_with fail
    with_reducible (refine (C1.out _ _ _ _ P).mono ?_)
    rintro e w2 ⟨v2, rfl, O2, hb⟩
    obtain ⟨q2, d2, rfl⟩ := O2.form
    have P2 : PicAt (w2.alloc (.cells #[.slice q2 IL.length d2] 38)) w2.heap.size q2 d2 IL := ⟨HIok.out, by simp, O2.rd.alloc _⟩
    replace S := (S.bl hb).alloc (.cells #[.slice q2 IL.length d2] 38)
    replace B := (B.bl hb).alloc (.cells #[.slice q2 IL.length d2] 38)
    clear hb O2 P
    go_wp2_with fail
    with_reducible (refine (C2.out _ _ _ _ P2).mono ?_)
    rintro e w3 ⟨rfl, hb⟩
    replace S := S.bl hb
    replace B := B.bl hb
    clear hb P2
    have b0 := B.cell 0 rfl
    have b1 := B.cell 1 rfl
    have g0 := B.frozen 0
    have g1 := B.frozen 1
    have hlt := B.lt
    have F := (B.set2' (.int .i64 n) (.string T))
    have f0 := F.cell 0 rfl
    have f1 := F.cell 1 rfl
    have SF := (S.set (b := w.heap.size + 1) (by omega) 0 (.int .i64 n)).set (b := w.heap.size + 1) (by omega) 1 (.string T)
    go_wp2
    refine bodyPost_ret (v := .tuple #[.agg #[.int .i64 n, .string T], .bool true]) (by simp [results, Try.results45, go_sem, f0, f1]) rfl ⟨rfl, SF.below⟩
end Go.Proofs.Ytnenogpagkepfaa
