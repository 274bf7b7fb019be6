/- Contracts of the reference's and of the program's TreeOf. -/
import Derived.Test.YtnenogpagkepfaaTreeTxt
import Derived.Test.YtnenogpagkepfaaImgOf
set_option linter.unusedVariables false
set_option linter.unusedSimpArgs false
namespace Go.Proofs.Ytnenogpagkepfaa
open Go.RowKit

/-- The text of a square picture. -/
def toT (k : Nat) (ss : List ByteArray) : ByteArray := bytesOf (qt k (pf (wid ss) ss.length (bits ss)) 0 0).print
def toOk (ss : List ByteArray) : Bool := okPic ss && ((wid ss : Int) == (ss.length : Int)) && sideB (wid ss)
def toN (ss : List ByteArray) : Int := if toOk ss then wid ss else 0
def toS (ss : List ByteArray) : ByteArray := if toOk ss then toT (lg (wid ss)) ss else ByteArray.empty
theorem to_no {ss : List ByteArray} (h : toOk ss = false) : toN ss = 0 ∧ toS ss = ByteArray.empty := by rw [toN, toS, h]; exact ⟨rfl, rfl⟩
theorem to_yes {ss : List ByteArray} (h : toOk ss = true) : toN ss = wid ss ∧ toS ss = toT (lg (wid ss)) ss := by rw [toN, toS, h]; exact ⟨rfl, rfl⟩
theorem toT_size {k : Nat} (hk : k ≤ 4) (ss : List ByteArray) : (toT k ss).size ≤ 1000 := by
  have h1 := print_len k (qt k (pf (wid ss) ss.length (bits ss)) 0 0) (qt_deep k _ 0 0)
  have h2 : 4 ^ k ≤ 4 ^ 4 := Nat.pow_le_pow_right (by omega) hk
  have h3 := bytesOf_size (qt k (pf (wid ss) ss.length (bits ss)) 0 0).print
  rw [toT]
  omega
set_option maxHeartbeats 1000000 in
theorem l02Square_any (a : Nat) (p : Option Addr) (c : Nat) (ss : List ByteArray) (w : World) (hn : ss.length ≤ 1048576) (hs : ∀ s ∈ ss, s.size ≤ 1048576)
    (ha : w.cell? ⟨a, 0, none⟩ = some (.slice p ss.length c)) (hr : Rd w p ss.length (strAt ss)) :
    Calls Try.prog 57 #[.pointer (some ⟨a, 0, none⟩)] w fun e w' => e = .returned (.bool (toOk ss)) ∧ ∃ n, w' = w.drewN n := by
  have c0 := l01Is_any a p c ss w hn hs ha hr
  have ht : toOk ss = (okPic ss && ((wid ss : Int) == (ss.length : Int)) && sideB (wid ss)) := rfl
  rw [ht]
  cases hok : okPic ss
  · rw [hok] at c0
    have C0 := Lib.hid c0; clear c0
    have Hok := Lib.hid hok; clear hok
    have Ht := Lib.hid ht; clear ht
    go_enter Try.func57, Try.ntmps57
    go_wp2_with fail
    with_reducible (refine C0.out.mono ?_)
    rintro e w1 ⟨rfl, n, rfl⟩
    go_wp2
    go_ret
    exact ⟨rfl, n, rfl⟩
  · rw [hok] at c0
    have P : ∀ n, PicAt (w.drewN n) a p c ss := fun n => PicAt.drewN ⟨hok, ha, hr⟩ n
    have c1 := fun n => l01Width_any a p c ss (w.drewN n) (P n)
    have c2 := fun n => l01Height_any a p c ss (w.drewN n) (P n)
    have c3 := fun w => l02Side_any (wid ss) w
    generalize (wid ss : Int) = W at *
    generalize (ss.length : Int) = H at *
    cases hw : (W == H)
    · have C0 := Lib.hid c0; clear c0
      have Hok := Lib.hid hok; clear hok
      have Ht := Lib.hid ht; clear ht
      have C1 := Lib.hid c1; clear c1
      have C2 := Lib.hid c2; clear c2
      have C3 := Lib.hid c3; clear c3
      go_enter Try.func57, Try.ntmps57
      go_wp2_with fail
      with_reducible (refine C0.out.mono ?_)
      rintro e w1 ⟨rfl, n, rfl⟩
      go_wp2_with fail
      with_reducible (refine (C1.out _).mono ?_)
      rintro e w1 ⟨rfl, rfl⟩
      go_wp2_with fail
      with_reducible (refine (C2.out _).mono ?_)
      rintro e w1 ⟨rfl, rfl⟩
      go_wp2
      go_ret
      exact ⟨rfl, n, rfl⟩
    · cases hsd : sideB W
      all_goals
        simp only [hsd] at c3
        have C0 := Lib.hid c0; clear c0
        have Hok := Lib.hid hok; clear hok
        have Ht := Lib.hid ht; clear ht
        have C1 := Lib.hid c1; clear c1
        have C2 := Lib.hid c2; clear c2
        have C3 := Lib.hid c3; clear c3
        have Hsd := Lib.hid hsd; clear hsd
        go_enter Try.func57, Try.ntmps57
        go_wp2_with fail
        with_reducible (refine C0.out.mono ?_)
        rintro e w1 ⟨rfl, n, rfl⟩
        go_wp2_with fail
        with_reducible (refine (C1.out _).mono ?_)
        rintro e w1 ⟨rfl, rfl⟩
        go_wp2_with fail
        with_reducible (refine (C2.out _).mono ?_)
        rintro e w1 ⟨rfl, rfl⟩
        go_wp2_with fail
        with_reducible (refine (C1.out _).mono ?_)
        rintro e w1 ⟨rfl, rfl⟩
        go_wp2_with fail
        with_reducible (refine (C3.out _).mono ?_)
        rintro e w1 ⟨rfl, rfl⟩
        go_wp2
        go_ret
        exact ⟨rfl, n, rfl⟩
set_option maxHeartbeats 1000000 in
theorem l02Tree_any (a : Nat) (p : Option Addr) (c : Nat) (ss : List ByteArray) (k : Nat) (w : World) (P : PicAt w a p c ss) (hk : k ≤ 4) (hw : (wid ss : Int) = ((2 ^ k : Nat) : Int)) :
    Calls Try.prog 58 #[.pointer (some ⟨a, 0, none⟩)] w fun e w' => e = .returned (.agg #[.int .i64 (wid ss), .string (toT k ss)]) ∧ Below w.heap.size w w' := by
  have hN := pow_le4 hk
  have P1 : ∀ o, PicAt (w.alloc o) a p c ss := fun o => P.bl (bl_alloc w o)
  have c1 := fun o => l01Width_any a p c ss (w.alloc o) (P1 o)
  have c2 := fun o => l02Text_any a p c ss k 0 0 0 0 (wid ss) (w.alloc o) (P1 o) rfl rfl hw hk (by omega) (by omega)
  have e1 : bytesOf (qt k (pf (wid ss) ss.length (bits ss)) 0 0).print = toT k ss := rfl
  rw [e1] at c2
  generalize toT k ss = T at *
  generalize (wid ss : Int) = W at *
  have hb := bl_alloc w (.cells #[.int .i64 0, .string ByteArray.empty] 26)
  clear e1 hw P P1
  have C1 := Lib.hid c1; clear c1
  have C2 := Lib.hid c2; clear c2
  go_enter Try.func58, Try.ntmps58
  go_wp2_with fail
  with_reducible (refine (C1.out _).mono ?_)
  rintro e w1 ⟨rfl, rfl⟩
  go_wp2_with fail
  with_reducible (refine (C2.out _).mono ?_)
  rintro e w1 ⟨rfl, n, rfl⟩
  go_wp2
  refine bodyPost_ret (v := .agg #[.int .i64 W, .string T]) (by simp [results, Try.results58, go_sem]) rfl ⟨rfl, by (repeat' (first | exact Below.refl _ _ | assumption | refine Below.drew ?_ | refine below_drewN ?_ _ | refine Below.alloc ?_ ?_ _ | refine Below.setCell ?_ ?_ _ | go_size))⟩
set_option maxHeartbeats 1000000 in
theorem sTreeOf_any (p : Option Addr) (c : Nat) (ss : List ByteArray) (w : World) (hn : ss.length ≤ 1048576) (hs : ∀ s ∈ ss, s.size ≤ 1048576) (hr : Rd w p ss.length (strAt ss)) :
    Calls Try.prog 21 #[.agg #[.slice p ss.length c]] w fun e w' => e = .returned (.tuple #[.agg #[.int .i64 (toN ss), .string (toS ss)], .bool (toOk ss)]) ∧ Below w.heap.size w w' := by
  have hy0 := bl_alloc w (.cells #[.slice p ss.length c] 38)
  have hy1 := bl_alloc (w.alloc (.cells #[.slice p ss.length c] 38)) (.cells #[.int .i64 0, .string ⟨#[]⟩] 26)
  have S := ((Since.refl w).bl hy0).bl hy1
  have P : PicVar ((w.alloc (.cells #[.slice p ss.length c] 38)).alloc (.cells #[.int .i64 0, .string ⟨#[]⟩] 26)) w.heap.size p c ss := ⟨by simp, (hr.alloc _).alloc _⟩
  have B := Blk.new (w.alloc (.cells #[.slice p ss.length c] 38)) #[.int .i64 0, .string ⟨#[]⟩] 26
  simp only [World.size_alloc] at B
  have c0 := l02Square_any w.heap.size p c ss _ hn hs P.box P.rd
  cases hok : toOk ss
  · obtain ⟨e1, e2⟩ := to_no hok
    rw [e1, e2]
    rw [hok] at c0
    have C0 := Lib.hid c0; clear c0
    have Hok := Lib.hid hok; clear hok
    have E1 := Lib.hid e1; clear e1
    have E2 := Lib.hid e2; clear e2
    clear P
    go_enter Try.func21, Try.ntmps21
    go_wp2_with fail
    with_reducible (refine C0.out.mono ?_)
    rintro e w1 ⟨rfl, n, rfl⟩
    replace S := S.bl (bl_drewN _ n)
    replace B := B.bl (bl_drewN _ n)
    have b0 := B.cell 0 rfl
    have b1 := B.cell 1 rfl
    have F := (B.set2' (.int .i64 0) (.string ⟨#[]⟩))
    have f0 := F.cell 0 rfl
    have f1 := F.cell 1 rfl
    have SF := (S.set (b := w.heap.size + 1) (by omega) 0 (.int .i64 0)).set (b := w.heap.size + 1) (by omega) 1 (.string ⟨#[]⟩)
    go_wp2
    refine bodyPost_ret (v := .tuple #[.agg #[.int .i64 0, .string ⟨#[]⟩], .bool false]) (by simp [results, Try.results21, go_sem]) rfl ⟨rfl, SF.below⟩
  · obtain ⟨e1, e2⟩ := to_yes hok
    rw [e1, e2]
    rw [hok] at c0
    have hh : okPic ss = true ∧ (wid ss : Int) = ((2 ^ lg (wid ss) : Nat) : Int) ∧ lg (wid ss) ≤ 4 := by
      have h := hok
      simp only [toOk, Bool.and_eq_true] at h
      have := sideB_lg h.2
      exact ⟨h.1.1, this.1, this.2⟩
    obtain ⟨hok2, hw2, hk⟩ := hh
    have c1 := fun w' (P : PicAt w' w.heap.size p c ss) => l02Tree_any w.heap.size p c ss (lg (wid ss)) w' P hk hw2
    generalize toT (lg (wid ss)) ss = T at *
    generalize (wid ss : Int) = W at *
    have C0 := Lib.hid c0; clear c0
    have Hok := Lib.hid hok; clear hok
    have E1 := Lib.hid e1; clear e1
    have E2 := Lib.hid e2; clear e2
    have C1 := Lib.hid c1; clear c1
    have Hok2 := Lib.hid hok2; clear hok2
    have Hw2 := Lib.hid hw2; clear hw2
    go_enter Try.func21, Try.ntmps21
    go_wp2_with fail
    with_reducible (refine C0.out.mono ?_)
    rintro e w1 ⟨rfl, n, rfl⟩
    replace S := S.bl (bl_drewN _ n)
    replace B := B.bl (bl_drewN _ n)
    have P2 := P.bl (bl_drewN _ n)
    go_wp2_with fail
    with_reducible (refine (C1.out _ ⟨Hok2.out, P2.box, P2.rd⟩).mono ?_)
    rintro e w2 ⟨rfl, hb⟩
    replace S := S.bl hb
    replace B := B.bl hb
    have hlt := B.lt
    have b0 := B.cell 0 rfl
    have b1 := B.cell 1 rfl
    have g0 := B.frozen 0
    have g1 := B.frozen 1
    have F := (B.set2' (.int .i64 W) (.string T))
    have f0 := F.cell 0 rfl
    have f1 := F.cell 1 rfl
    have SF := (S.set (b := w.heap.size + 1) (by omega) 0 (.int .i64 W)).set (b := w.heap.size + 1) (by omega) 1 (.string T)
    clear hb P P2 B S
    go_wp2
    refine bodyPost_ret (v := .tuple #[.agg #[.int .i64 W, .string T], .bool true]) (by simp [results, Try.results21, go_sem, f0, f1]) rfl ⟨rfl, SF.below⟩
set_option maxHeartbeats 1000000 in
theorem treeOf_any (m g W H : Nat) (f : Nat → Bool) (k : Nat) (w : World) (I : Img w m g W H f) (hk : k ≤ 4) (hw : (W : Int) = ((2 ^ k : Nat) : Int)) :
    Calls Try.prog 62 #[.pointer (some ⟨m, 0, none⟩)] w fun e w' => e = .returned (.agg #[.int .i64 W, .string (bytesOf (qt k (pf W H f) 0 0).print)]) ∧ Below w.heap.size w w' := by
  have hN := pow_le4 hk
  have B := Blk.new w #[.int .i64 0, .string ⟨#[]⟩] 26
  have I1 := I.bl (bl_alloc w (.cells #[.int .i64 0, .string ⟨#[]⟩] 26))
  have S := (Since.refl w).alloc (.cells #[.int .i64 0, .string ⟨#[]⟩] 26)
  have c1 := fun w' (I : Img w' m g W H f) => treeText_any m g W H f k 0 0 0 0 W w' I rfl rfl hw hk (by omega) (by omega)
  obtain ⟨T, eT⟩ : ∃ T, bytesOf (qt k (pf W H f) 0 0).print = T := ⟨_, rfl⟩
  simp only [eT] at c1
  rw [eT]
  have C1 := Lib.hid c1; clear c1
  have ET := Lib.hid eT; clear eT
  have Hw := Lib.hid hw; clear hw
  go_enter Try.func62, Try.ntmps62
  go_upto_region 1 with (fail)
  generalize w.alloc (.cells #[.int .i64 0, .string ⟨#[]⟩] 26) = w0 at *
  have I2 := I1.bl (bl_drew w0)
  have B2 := B.bl (bl_drew w0)
  have S2 := S.bl (bl_drew w0)
  have x0 := I1.c0
  have hm := I.lt.1
  have cc := C1.out w0.drew I2
  clear I I1
  have Cc := Lib.hid cc; clear cc
  go_region_held3 (fun w' => w'.cell? ⟨m, 0, none⟩ = some (.int .i64 W))
    (first
      | exact x0
      | exact (I2.bl hb).c0
      | exact ((((Below.refl w.heap.size w1).setCell (p := ⟨w.heap.size, 0, none⟩) (Nat.le_refl _) _).setCell (p := ⟨w.heap.size, 1, none⟩) (Nat.le_refl _) _).cell (p := ⟨m, 0, none⟩) hm).trans ((I2.bl hb).c0))
    ((go_at_call 82; with_reducible (refine Cc.out.mono ?_); rintro e w1 ⟨rfl, hb⟩; have B3 := B2.bl hb; have b0 := B3.cell 0 rfl; have b1 := B3.cell 1 rfl; have g0 := B3.frozen 0; have g1 := B3.frozen 1; have hlt := B3.lt))
  have F := (B3.set2' (.int .i64 W) (.string T))
  have f0 := F.cell 0 rfl
  have f1 := F.cell 1 rfl
  have SF := ((S2.bl hb).set (b := w.heap.size) (Nat.le_refl _) 0 (.int .i64 W)).set (b := w.heap.size) (Nat.le_refl _) 1 (.string T)
  go_wp2
  refine bodyPost_ret (v := .agg #[.int .i64 W, .string T]) (by simp [results, Try.results62, go_sem, f0, f1]) rfl ⟨rfl, SF.below⟩
set_option maxHeartbeats 1000000 in
theorem iTreeOf_any (p : Option Addr) (c : Nat) (ss : List ByteArray) (w : World) (hn : ss.length ≤ 1048576) (hs : ∀ s ∈ ss, s.size ≤ 1048576) (hr : Rd w p ss.length (strAt ss)) :
    Calls Try.prog 23 #[.agg #[.slice p ss.length c]] w fun e w' => e = .returned (.tuple #[.agg #[.int .i64 (toN ss), .string (toS ss)], .bool (toOk ss)]) ∧ Below w.heap.size w w' := by
  have hy0 := bl_alloc w (.cells #[.slice p ss.length c] 38)
  have hy1 := bl_alloc (w.alloc (.cells #[.slice p ss.length c] 38)) (.cells #[.int .i64 0, .string ⟨#[]⟩] 26)
  have S := ((Since.refl w).bl hy0).bl hy1
  have R := (hr.bl hy0).bl hy1
  have B := Blk.new (w.alloc (.cells #[.slice p ss.length c] 38)) #[.int .i64 0, .string ⟨#[]⟩] 26
  simp only [World.size_alloc] at B
  have c0 := imageOf_any p c ss _ hn hs R
  unfold ImgOut at c0
  have ht : toOk ss = (okPic ss && ((wid ss : Int) == (ss.length : Int)) && sideB (wid ss)) := rfl
  cases hok : okPic ss
  · have hno : toOk ss = false := by rw [ht, hok]; rfl
    obtain ⟨e1, e2⟩ := to_no hno
    rw [e1, e2, hno]
    simp only [hok, true_and, Bool.false_eq_true, false_and, or_false] at c0
    have C0 := Lib.hid c0; clear c0
    have Hok := Lib.hid hok; clear hok
    have E1 := Lib.hid e1; clear e1
    have E2 := Lib.hid e2; clear e2
    have Ht := Lib.hid ht; clear ht
    have Hno := Lib.hid hno; clear hno
    go_enter Try.func23, Try.ntmps23
    go_wp2_with fail
    with_reducible (refine C0.out.mono ?_)
    rintro e w1 ⟨hb, rfl⟩
    replace S := S.bl hb
    replace B := B.bl hb
    go_upto_region 2 with (fail)
    go_quiet (fail)
    replace S := S.bl (bl_drewN _ nq)
    replace B := B.bl (bl_drewN _ nq)
    have b0 := B.cell 0 rfl
    have b1 := B.cell 1 rfl
    have g0 := B.frozen 0
    have g1 := B.frozen 1
    have hlt := B.lt
    have F := (B.set2' (.int .i64 0) (.string ⟨#[]⟩))
    have f0 := F.cell 0 rfl
    have f1 := F.cell 1 rfl
    have SF := (S.set (b := w.heap.size + 1) (by omega) 0 (.int .i64 0)).set (b := w.heap.size + 1) (by omega) 1 (.string ⟨#[]⟩)
    go_wp2
    refine bodyPost_ret (v := .tuple #[.agg #[.int .i64 0, .string ⟨#[]⟩], .bool false]) (by simp [results, Try.results23, go_sem, f0, f1]) rfl ⟨rfl, SF.below⟩
  · simp only [hok, true_and, Bool.true_eq_false, false_and, false_or] at c0
    cases hwh : ((wid ss : Int) == (ss.length : Int))
    · have hno : toOk ss = false := by rw [ht, hok, hwh]; rfl
      have hwn : ((wid ss : Int) != (ss.length : Int)) = true := by rw [bne, hwh]; rfl
      obtain ⟨e1, e2⟩ := to_no hno
      rw [e1, e2, hno]
      have C0 := Lib.hid c0; clear c0
      have Hok := Lib.hid hok; clear hok
      have E1 := Lib.hid e1; clear e1
      have E2 := Lib.hid e2; clear e2
      have Ht := Lib.hid ht; clear ht
      have Hno := Lib.hid hno; clear hno
      have Hwh := Lib.hid hwh; clear hwh
      go_enter Try.func23, Try.ntmps23
      go_wp2_with fail
      with_reducible (refine C0.out.mono ?_)
      rintro e w1 ⟨hb, m, g, rfl, I, hm, hg⟩
      replace S := S.bl hb
      replace B := B.bl hb
      have i0 := I.c0
      have i1 := I.c1
      go_upto_region 2 with (fail)
      go_quiet (fail)
      replace S := S.bl (bl_drewN _ nq)
      replace B := B.bl (bl_drewN _ nq)
      have b0 := B.cell 0 rfl
      have b1 := B.cell 1 rfl
      have g0 := B.frozen 0
      have g1 := B.frozen 1
      have hlt := B.lt
      have F := (B.set2' (.int .i64 0) (.string ⟨#[]⟩))
      have f0 := F.cell 0 rfl
      have f1 := F.cell 1 rfl
      have SF := (S.set (b := w.heap.size + 1) (by omega) 0 (.int .i64 0)).set (b := w.heap.size + 1) (by omega) 1 (.string ⟨#[]⟩)
      go_wp2
      refine bodyPost_ret (v := .tuple #[.agg #[.int .i64 0, .string ⟨#[]⟩], .bool false]) (by simp [results, Try.results23, go_sem, f0, f1]) rfl ⟨rfl, SF.below⟩
    · have c1 := fun w => sideOk_any (wid ss : Int) w
      have hwn : ((wid ss : Int) != (ss.length : Int)) = false := by rw [bne, hwh]; rfl
      cases hsd : sideB (wid ss)
      · have hno : toOk ss = false := by rw [ht, hok, hwh, hsd]; rfl
        obtain ⟨e1, e2⟩ := to_no hno
        rw [e1, e2, hno]
        simp only [hsd] at c1
        have C0 := Lib.hid c0; clear c0
        have Hok := Lib.hid hok; clear hok
        have E1 := Lib.hid e1; clear e1
        have E2 := Lib.hid e2; clear e2
        have Ht := Lib.hid ht; clear ht
        have Hno := Lib.hid hno; clear hno
        have C1 := Lib.hid c1; clear c1
        have Hsd := Lib.hid hsd; clear hsd
        have Hwh := Lib.hid hwh; clear hwh
        go_enter Try.func23, Try.ntmps23
        go_wp2_with fail
        with_reducible (refine C0.out.mono ?_)
        rintro e w1 ⟨hb, m, g, rfl, I, hm, hg⟩
        replace S := (S.bl hb).bl (bl_drew w1)
        replace B := (B.bl hb).bl (bl_drew w1)
        have I2 := I.bl (bl_drew w1)
        have i0 := I.c0
        have i1 := I.c1
        have cc := C1.out w1.drew
        have Cc := Lib.hid cc; clear cc
        go_upto_region 2 with (fail)
        go_region_held3 (fun w' => w'.cell? ⟨m, 0, none⟩ = some (.int .i64 (wid ss)) ∧ w'.cell? ⟨m, 1, none⟩ = some (.int .i64 ss.length))
          (first
            | exact ⟨i0, i1⟩
            | exact ⟨(I2.bl hb2).c0, (I2.bl hb2).c1⟩)
          ((go_at_call 61; with_reducible (refine Cc.out.mono ?_); rintro e w2 ⟨rfl, hb2⟩))
        replace S := S.bl hb2
        replace B := B.bl hb2
        have b0 := B.cell 0 rfl
        have b1 := B.cell 1 rfl
        have g0 := B.frozen 0
        have g1 := B.frozen 1
        have hlt := B.lt
        have F := (B.set2' (.int .i64 0) (.string ⟨#[]⟩))
        have f0 := F.cell 0 rfl
        have f1 := F.cell 1 rfl
        have SF := (S.set (b := w.heap.size + 1) (by omega) 0 (.int .i64 0)).set (b := w.heap.size + 1) (by omega) 1 (.string ⟨#[]⟩)
        go_wp2
        refine bodyPost_ret (v := .tuple #[.agg #[.int .i64 0, .string ⟨#[]⟩], .bool false]) (by simp [results, Try.results23, go_sem, f0, f1]) rfl ⟨rfl, SF.below⟩
      · have hyes : toOk ss = true := by rw [ht, hok, hwh, hsd]; rfl
        obtain ⟨e1, e2⟩ := to_yes hyes
        rw [e1, e2, hyes]
        simp only [hsd] at c1
        obtain ⟨hw2, hk⟩ := sideB_lg hsd
        have c2 := fun m g w' (I : Img w' m g (wid ss) ss.length (bits ss)) => treeOf_any m g (wid ss) ss.length (bits ss) (lg (wid ss)) w' I hk hw2
        have e3 : bytesOf (qt (lg (wid ss)) (pf (wid ss) ss.length (bits ss)) 0 0).print = toT (lg (wid ss)) ss := rfl
        simp only [e3] at c2
        generalize toT (lg (wid ss)) ss = T at *
        have C0 := Lib.hid c0; clear c0
        have Hok := Lib.hid hok; clear hok
        have E1 := Lib.hid e1; clear e1
        have E2 := Lib.hid e2; clear e2
        have Ht := Lib.hid ht; clear ht
        have Hyes := Lib.hid hyes; clear hyes
        have C1 := Lib.hid c1; clear c1
        have Hsd := Lib.hid hsd; clear hsd
        have C2 := Lib.hid c2; clear c2
        have Hw2 := Lib.hid hw2; clear hw2
        have Hwh := Lib.hid hwh; clear hwh
        go_enter Try.func23, Try.ntmps23
        go_wp2_with fail
        with_reducible (refine C0.out.mono ?_)
        rintro e w1 ⟨hb, m, g, rfl, I, hm, hg⟩
        replace S := (S.bl hb).bl (bl_drew w1)
        replace B := (B.bl hb).bl (bl_drew w1)
        have I2 := I.bl (bl_drew w1)
        have i0 := I.c0
        have i1 := I.c1
        have cc := C1.out w1.drew
        have Cc := Lib.hid cc; clear cc
        go_upto_region 2 with (fail)
        go_region_held3 (fun w' => w'.cell? ⟨m, 0, none⟩ = some (.int .i64 (wid ss)) ∧ w'.cell? ⟨m, 1, none⟩ = some (.int .i64 ss.length))
          (first
            | exact ⟨i0, i1⟩
            | exact ⟨(I2.bl hb2).c0, (I2.bl hb2).c1⟩)
          ((go_at_call 61; with_reducible (refine Cc.out.mono ?_); rintro e w2 ⟨rfl, hb2⟩))
        replace S := S.bl hb2
        replace B := B.bl hb2
        have I3 := I2.bl hb2
        go_wp2_with fail
        with_reducible (refine (C2.out _ _ _ I3).mono ?_)
        rintro e w3 ⟨rfl, hb3⟩
        replace S := S.bl hb3
        replace B := B.bl hb3
        have b0 := B.cell 0 rfl
        have b1 := B.cell 1 rfl
        have g0 := B.frozen 0
        have g1 := B.frozen 1
        have hlt := B.lt
        have F := (B.set2' (.int .i64 (wid ss)) (.string T))
        have f0 := F.cell 0 rfl
        have f1 := F.cell 1 rfl
        have SF := (S.set (b := w.heap.size + 1) (by omega) 0 (.int .i64 (wid ss))).set (b := w.heap.size + 1) (by omega) 1 (.string T)
        go_wp2
        refine bodyPost_ret (v := .tuple #[.agg #[.int .i64 (wid ss), .string T], .bool true]) (by simp [results, Try.results23, go_sem, f0, f1]) rfl ⟨rfl, SF.below⟩
end Go.Proofs.Ytnenogpagkepfaa
