/- Contracts of the reference's and the program's NearestOf, and their parts. -/
import Derived.Test.YtakoklldmdbphaaNear
import Derived.Test.YtakoklldmdbphaaSpecIn
set_option linter.unusedVariables false
namespace Go.Proofs.Ytakoklldmdbphaa
open Go.RowKit

theorem Since.set2 {w a : World} (h : Since w a) {b : Nat} (hb : w.heap.size ≤ b) (x y : Value) : Since w ((a.setCell ⟨b, 0, none⟩ x).setCell ⟨b, 1, none⟩ y) := (h.setc hb _).setc hb _
theorem Blk.two {w : World} {b : Nat} {u v : Value} {t : TypeId} (h : Blk w b #[u, v] t) (x y : Value) :
    w.cell? ⟨b, 0, none⟩ = some u ∧ w.frozen? ⟨b, 0, none⟩ = false ∧ (w.setCell ⟨b, 0, none⟩ x).cell? ⟨b, 1, none⟩ = some v ∧ (w.setCell ⟨b, 0, none⟩ x).frozen? ⟨b, 1, none⟩ = false ∧
    ((w.setCell ⟨b, 0, none⟩ x).setCell ⟨b, 1, none⟩ y).cell? ⟨b, 0, none⟩ = some x ∧ ((w.setCell ⟨b, 0, none⟩ x).setCell ⟨b, 1, none⟩ y).cell? ⟨b, 1, none⟩ = some y :=
  ⟨h.cell 0 rfl, h.frozen 0, (h.set 0 x).cell 1 rfl, (h.set 0 x).frozen 1, (h.set2 x y).cell 0 rfl, (h.set2 x y).cell 1 rfl⟩

def askB (ss : List ByteArray) (k : Int) : Bool := okPic ss && inB k 0 2
/-- Is a picture valid, has it a black pixel, and is k a kind of distance? -/
def someB (ss : List ByteArray) (k : Int) : Bool := askB ss k && decide ((0 : Int) < ((spotsL ss).length : Int))
theorem someB_true {ss : List ByteArray} {k : Int} (h : someB ss k = true) : okPic ss = true ∧ inB k 0 2 = true ∧ 0 < (spotsL ss).length := by
  simp only [someB, askB, Bool.and_eq_true, decide_eq_true_eq] at h
  exact ⟨h.1.1, h.1.2, by omega⟩
def nearOkB (ss : List ByteArray) (k x y : Int) : Bool := someB ss k && hasB (wid ss) ss.length x y
def nearR (ss : List ByteArray) (k x y : Int) : Int × Int := if nearOkB ss k x y then bestS (farG k x y) (spotsL ss) else (0, 0)
theorem spotsL_mem {ss : List ByteArray} {s : Int × Int} (h : s ∈ spotsL ss) : (0 ≤ s.1 ∧ s.1 ≤ 15) ∧ (0 ≤ s.2 ∧ s.2 ≤ 15) := by
  unfold spotsL at h
  split at h
  · rename_i ho
    have hd := okPic_dims ho
    unfold spotsTo at h
    rw [List.mem_filterMap] at h
    obtain ⟨i, hi, he⟩ := h
    rw [List.mem_range] at hi
    split at he
    · simp only [Option.some.injEq] at he
      subst he
      have h1 : i % wid ss < wid ss := Nat.mod_lt _ (by omega)
      have h2 : i / wid ss < ss.length := Nat.div_lt_of_lt_mul hi
      dsimp only
      generalize i % wid ss = a at *
      generalize i / wid ss = b at *
      omega
    · cases he
  · cases h

set_option maxHeartbeats 1000000 in
theorem l06Ask_any (a : Nat) (p : Option Addr) (c : Nat) (ss : List ByteArray) (k : Int) (w : World) (hn : ss.length ≤ 1048576) (hs : ∀ s ∈ ss, s.size ≤ 1048576) (P : PicVar w a p c ss) :
    Calls Try.prog 133 #[.pointer (some ⟨a, 0, none⟩), .int .i64 k] w fun e w' => e = .returned (.bool (askB ss k)) ∧ ∃ n, w' = w.drewN n := by
  have c0 := l01Is_any a p c ss w hn hs P.box P.rd
  unfold askB
  cases hok : okPic ss
  all_goals
    rw [hok] at c0
    have C0 := Lib.hid c0; clear c0
    have Hok := Lib.hid hok; clear hok
    go_enter Try.func133, Try.ntmps133
    go_wp2_with fail
    refine C0.out.mono ?_
    rintro e w1 ⟨rfl, n, rfl⟩
    go_wp2_with (go_at_call 98; refine (l06Kind_any _ _).mono ?_; rintro e w1 ⟨rfl, rfl⟩)
    go_ret
    exact ⟨rfl, n, rfl⟩
set_option maxHeartbeats 1000000 in
theorem l06Some_any (a : Nat) (p : Option Addr) (c : Nat) (ss : List ByteArray) (k : Int) (w : World) (hn : ss.length ≤ 1048576) (hs : ∀ s ∈ ss, s.size ≤ 1048576) (P : PicVar w a p c ss) :
    Calls Try.prog 101 #[.pointer (some ⟨a, 0, none⟩), .int .i64 k] w fun e w' => e = .returned (.bool (someB ss k)) ∧ ∃ n, w' = w.drewN n := by
  have c0 := l06Ask_any a p c ss k w hn hs P
  unfold someB
  cases hok : askB ss k
  · rw [hok] at c0
    have C0 := Lib.hid c0; clear c0
    have Hok := Lib.hid hok; clear hok
    go_enter Try.func101, Try.ntmps101
    go_wp2_with fail
    refine C0.out.mono ?_
    rintro e w1 ⟨rfl, n, rfl⟩
    go_wp2
    go_ret
    exact ⟨rfl, n, rfl⟩
  · have ho : okPic ss = true := by simp only [askB, Bool.and_eq_true] at hok; exact hok.1
    have hsl : spotsL ss = spotsTo (wid ss) (bits ss) (wid ss * ss.length) := by rw [spotsL, if_pos ho]
    have c1 := fun n => l01Count_any a p c ss (w.drewN n) ((P.at ho).bl (bl_drewN _ _))
    rw [hok] at c0
    rw [hsl]
    generalize (spotsTo (wid ss) (bits ss) (wid ss * ss.length)).length = N at *
    have C0 := Lib.hid c0; clear c0
    have C1 := Lib.hid c1; clear c1
    have Hok := Lib.hid hok; clear hok
    have Ho := Lib.hid ho; clear ho
    have Hsl := Lib.hid hsl; clear hsl
    go_enter Try.func101, Try.ntmps101
    go_wp2_with fail
    refine C0.out.mono ?_
    rintro e w1 ⟨rfl, n, rfl⟩
    go_wp2_with fail
    refine (C1.out n).mono ?_
    rintro e w1 ⟨rfl, rfl⟩
    go_wp2
    go_ret
    exact ⟨by simp, n, rfl⟩
set_option maxHeartbeats 4000000 in
theorem sNearestOf_any (p : Option Addr) (c : Nat) (ss : List ByteArray) (k x y : Int) (w : World) (hn : ss.length ≤ 1048576) (hs : ∀ s ∈ ss, s.size ≤ 1048576) (hr : Rd w p ss.length (strAt ss)) :
    Calls Try.prog 43 #[.agg #[.slice p ss.length c], .int .i64 k, .agg #[.int .i64 x, .int .i64 y]] w fun e w' =>
      e = .returned (.tuple #[.agg #[.int .i64 (nearR ss k x y).1, .int .i64 (nearR ss k x y).2], .bool (nearOkB ss k x y)]) ∧ Below w.heap.size w w' := by
  have S := (((Since.refl w).alloc (.cells #[.slice p ss.length c] 30)).alloc (.cells #[.int .i64 x, .int .i64 y] 27)).alloc (.cells #[.int .i64 0, .int .i64 0] 27)
  have P : PicVar (((w.alloc (.cells #[.slice p ss.length c] 30)).alloc (.cells #[.int .i64 x, .int .i64 y] 27)).alloc (.cells #[.int .i64 0, .int .i64 0] 27)) w.heap.size p c ss := ⟨(((Blk.new w #[.slice p ss.length c] 30).alloc _).alloc _).cell 0 rfl, ((hr.alloc _).alloc _).alloc _⟩
  have A := (Blk.new (w.alloc (.cells #[.slice p ss.length c] 30)) #[.int .i64 x, .int .i64 y] 27).alloc (.cells #[.int .i64 0, .int .i64 0] 27)
  have B := Blk.new ((w.alloc (.cells #[.slice p ss.length c] 30)).alloc (.cells #[.int .i64 x, .int .i64 y] 27)) #[.int .i64 0, .int .i64 0] 27
  simp only [World.size_alloc] at A B
  have c0 := fun w' h => l06Some_any w.heap.size p c ss k w' hn hs h
  cases hsm : someB ss k
  · have hv : nearR ss k x y = (0, 0) := by simp [nearR, nearOkB, hsm]
    have hv2 : nearOkB ss k x y = false := by simp [nearOkB, hsm]
    rw [hv, hv2]
    rw [hsm] at c0
    have C0 := Lib.hid c0; clear c0
    have Hsm := Lib.hid hsm; clear hsm
    clear hv hv2
    go_enter Try.func43, Try.ntmps43
    go_wp2_with fail
    refine (C0.out _ P).mono ?_
    rintro e w1 ⟨rfl, n, rfl⟩
    replace S := S.bl (bl_drewN _ n)
    replace B := B.bl (bl_drewN _ n)
    obtain ⟨e0, f0, e1, f1, t0, t1⟩ := B.two (.int .i64 0) (.int .i64 0)
    go_wp2
    refine bodyPost_ret (v := .tuple #[.agg #[.int .i64 0, .int .i64 0], .bool false]) (by simp [results, Try.results43, go_sem, t0, t1]) rfl ⟨rfl, (S.set2 (b := w.heap.size + 1 + 1) (by omega) _ _).below⟩
  · obtain ⟨ho, hk, h0⟩ := someB_true hsm
    have c1 := fun w' h => l01Has_any w.heap.size p c ss x y w' h
    have P1 := P.at ho
    cases hh : hasB (wid ss) ss.length x y
    · have hv : nearR ss k x y = (0, 0) := by simp [nearR, nearOkB, hh]
      have hv2 : nearOkB ss k x y = false := by simp [nearOkB, hh]
      rw [hv, hv2]
      rw [hsm] at c0
      rw [hh] at c1
      have C0 := Lib.hid c0; clear c0
      have Hsm := Lib.hid hsm; clear hsm
      have C1 := Lib.hid c1; clear c1
      have Hh := Lib.hid hh; clear hh
      have Ho := Lib.hid ho; clear ho
      have Hk := Lib.hid hk; clear hk
      clear hv hv2
      go_enter Try.func43, Try.ntmps43
      go_wp2_with fail
      refine (C0.out _ P).mono ?_
      rintro e w1 ⟨rfl, n, rfl⟩
      replace S := S.bl (bl_drewN _ n)
      replace B := B.bl (bl_drewN _ n)
      replace A := A.bl (bl_drewN _ n)
      replace P1 := P1.bl (bl_drewN _ n)
      have a0 := A.cell 0 rfl
      have a1 := A.cell 1 rfl
      obtain ⟨e0, f0, e1, f1, t0, t1⟩ := B.two (.int .i64 0) (.int .i64 0)
      go_wp2_with (go_at_call 102; refine (C1.out _ P1).mono ?_; rintro e w1 ⟨rfl, rfl⟩)
      refine bodyPost_ret (v := .tuple #[.agg #[.int .i64 0, .int .i64 0], .bool false]) (by simp [results, Try.results43, go_sem, t0, t1]) rfl ⟨rfl, (S.set2 (b := w.heap.size + 1 + 1) (by omega) _ _).below⟩
    · have hv : nearR ss k x y = bestS (farG k x y) (spotsL ss) := by simp [nearR, nearOkB, hh, hsm]
      have hv2 : nearOkB ss k x y = true := by simp [nearOkB, hh, hsm]
      rw [hv, hv2]
      have hd := okPic_dims ho
      obtain ⟨xn, yn, e1, e2, hxW, hyH⟩ := hasB_nat hh
      have c2 := fun w' h => l06Nearest_any w.heap.size p c ss k x y w' h (by omega) (by omega)
      rw [hsm] at c0
      rw [hh] at c1
      clear hd e1 e2 hxW hyH
      generalize bestD (farG k x y) (spotsL ss) = D at *
      generalize bestS (farG k x y) (spotsL ss) = R at *
      obtain ⟨bx, bY⟩ := R
      dsimp only at c2 ⊢
      have C0 := Lib.hid c0; clear c0
      have Hsm := Lib.hid hsm; clear hsm
      have C1 := Lib.hid c1; clear c1
      have Hh := Lib.hid hh; clear hh
      have Ho := Lib.hid ho; clear ho
      have Hk := Lib.hid hk; clear hk
      have C2 := Lib.hid c2; clear c2
      clear hv hv2
      go_enter Try.func43, Try.ntmps43
      go_wp2_with fail
      refine (C0.out _ P).mono ?_
      rintro e w1 ⟨rfl, n, rfl⟩
      replace S := S.bl (bl_drewN _ n)
      replace B := B.bl (bl_drewN _ n)
      replace A := A.bl (bl_drewN _ n)
      replace P1 := P1.bl (bl_drewN _ n)
      have a0 := A.cell 0 rfl
      have a1 := A.cell 1 rfl
      go_wp2_with (go_at_call 102; refine (C1.out _ P1).mono ?_; rintro e w1 ⟨rfl, rfl⟩)
      refine (C2.out _ P1).mono ?_
      rintro e w1 ⟨rfl, hb⟩
      replace S := (S.bl hb).alloc (.cells #[.int .i64 bx, .int .i64 bY] 27)
      replace B := (B.bl hb).alloc (.cells #[.int .i64 bx, .int .i64 bY] 27)
      have hlt := B.lt
      obtain ⟨e0, f0, e1, f1, t0, t1⟩ := B.two (.int .i64 bx) (.int .i64 bY)
      clear hb a0 a1
      go_wp2
      refine bodyPost_ret (v := .tuple #[.agg #[.int .i64 bx, .int .i64 bY], .bool true]) (by simp [results, Try.results43, go_sem, t0, t1]) rfl ⟨rfl, (S.set2 (b := w.heap.size + 1 + 1) (by omega) _ _).below⟩
/-- What withBlack answers. -/
def WBOut (w : World) (ss : List ByteArray) (k : Int) (e : Ending) (w' : World) : Prop :=
  Below w.heap.size w w' ∧ ((someB ss k = false ∧ e = .returned (.tuple #[.pointer none, .slice none 0 0, .bool false])) ∨
    (someB ss k = true ∧ ∃ m g v, e = .returned (.tuple #[.pointer (some ⟨m, 0, none⟩), v, .bool true]) ∧ Img w' m g (wid ss) ss.length (bits ss) ∧ OwnSpots w.heap.size w' v (spotsL ss) ∧ w.heap.size ≤ m ∧ w.heap.size ≤ g))
set_option maxHeartbeats 4000000 in
theorem withBlack_any (p : Option Addr) (c : Nat) (ss : List ByteArray) (k : Int) (w : World) (hn : ss.length ≤ 1048576) (hs : ∀ s ∈ ss, s.size ≤ 1048576) (hr : Rd w p ss.length (strAt ss)) :
    Calls Try.prog 104 #[.agg #[.slice p ss.length c], .int .i64 k] w (WBOut w ss k) := by
  cases hk : inB k 0 2
  · have hsm : someB ss k = false := by simp [someB, askB, hk]
    have ck := fun w => (kindOk_any k w).mono fun e w' q => (⟨q.1.trans (by rw [hk]), q.2⟩ : e = .returned (.bool false) ∧ w = w')
    have Hk := Lib.hid hk; clear hk
    have Ck := Lib.hid ck; clear ck
    have Hsm := Lib.hid hsm; clear hsm
    go_enter Try.func104, Try.ntmps104
    go_wp2_with fail
    refine (imageOf_any p c ss _ hn hs (hr.alloc _)).mono ?_
    rintro e w1 ⟨hb, ⟨h, rfl⟩ | ⟨h, m, g, rfl, hI, hm, hg⟩⟩
    · have hb1 := below_a1 hb
      have H := Lib.hid h; clear h
      go_wp2
      go_ret3
      exact ⟨hb1, .inl ⟨Hsm.out, rfl⟩⟩
    · have hb1 := below_a1 hb
      have H := Lib.hid h; clear h
      go_wp2_with (go_at_call 86; refine (Ck.out _).mono ?_; rintro e w1 ⟨rfl, rfl⟩)
      go_ret3
      exact ⟨hb1, .inl ⟨Hsm.out, rfl⟩⟩
  · have ck := fun w => (kindOk_any k w).mono fun e w' q => (⟨q.1.trans (by rw [hk]), q.2⟩ : e = .returned (.bool true) ∧ w = w')
    have h1 : okPic ss = false → someB ss k = false := fun h => by simp [someB, askB, h]
    have h2 : okPic ss = true → someB ss k = decide ((0 : Int) < ((spotsL ss).length : Int)) := fun h => by simp [someB, askB, h, hk]
    have h3 : okPic ss = true → spotsTo (wid ss) (bits ss) (wid ss * ss.length) = spotsL ss := fun h => by rw [spotsL, if_pos h]
    have Hk := Lib.hid hk; clear hk
    have Ck := Lib.hid ck; clear ck
    have H1 := Lib.hid h1; clear h1
    have H2 := Lib.hid h2; clear h2
    have H3 := Lib.hid h3; clear h3
    go_enter Try.func104, Try.ntmps104
    go_wp2_with fail
    refine (imageOf_any p c ss _ hn hs (hr.alloc _)).mono ?_
    rintro e w1 ⟨hb, ⟨h, rfl⟩ | ⟨h, m, g, rfl, hI, hm, hg⟩⟩
    · have hb1 := below_a1 hb
      have HS := Lib.hid (H1.out h)
      have H := Lib.hid h; clear h
      go_wp2
      go_ret3
      exact ⟨hb1, .inl ⟨HS.out, rfl⟩⟩
    · have hb1 := below_a1 hb
      have HS := Lib.hid (H2.out h)
      have cc := count_any m g _ _ _ w1 hI
      have E := H3.out h
      rw [E] at cc
      have Cc := Lib.hid cc; clear cc
      have E := Lib.hid E
      clear hb
      simp only [World.size_alloc] at hm hg
      obtain ⟨N, eN⟩ : ∃ N, (spotsL ss).length = N := ⟨_, rfl⟩
      rw [eN] at Cc HS
      have EN := Lib.hid eN; clear eN
      have H := Lib.hid h; clear h
      cases hz : ((N : Int) == 0)
      · have hz2 : (0 : Int) < (N : Int) := by have := beq_eq_false_iff_ne.1 hz; omega
        have hz3 : someB ss k = true := by rw [HS.out]; simpa using hz2
        have Hz3 := Lib.hid hz3; clear hz3
        go_wp2_with fail
        refine (Ck.out _).mono ?_
        rintro e w2 ⟨rfl, rfl⟩
        go_wp2_with fail
        refine Cc.out.mono ?_
        rintro e w2 ⟨rfl, hb2⟩
        have I2 := hI.below hb2 hI.lt.1 hI.lt.2
        have cs := spots_any m g _ _ _ w2 I2
        rw [E.out] at cs
        have hb3 := bl_trans hb1 hb2
        have Cs := Lib.hid cs; clear cs
        clear hb2 hI
        go_wp2_with fail
        refine Cs.out.mono ?_
        rintro e w3 ⟨v, rfl, ho, hb4⟩
        have I3 := I2.below hb4 I2.lt.1 I2.lt.2
        have hb5 := bl_trans hb3 hb4
        have hsz := hb3.size
        clear hb4 I2
        obtain ⟨q, d, rfl⟩ := ho.form
        go_wp2
        go_ret3
        exact ⟨hb5, .inr ⟨Hz3.out, m, g, _, rfl, I3, ho.mono hsz, by omega, by omega⟩⟩
      · have hz2 : ¬ (0 : Int) < (N : Int) := by have := beq_iff_eq.1 hz; omega
        have hz3 : someB ss k = false := by rw [HS.out]; simpa using hz2
        have Hz3 := Lib.hid hz3; clear hz3
        clear hz2
        go_wp2_with fail
        refine (Ck.out _).mono ?_
        rintro e w2 ⟨rfl, rfl⟩
        go_wp2_with fail
        refine Cc.out.mono ?_
        rintro e w2 ⟨rfl, hb2⟩
        have hb3 := bl_trans hb1 hb2
        clear hb2
        go_wp2
        go_ret3
        exact ⟨hb3, .inl ⟨Hz3.out, rfl⟩⟩
set_option maxHeartbeats 4000000 in
theorem nearestOf_any (p : Option Addr) (c : Nat) (ss : List ByteArray) (k x y : Int) (w : World) (hn : ss.length ≤ 1048576) (hs : ∀ s ∈ ss, s.size ≤ 1048576) (hr : Rd w p ss.length (strAt ss)) :
    Calls Try.prog 45 #[.agg #[.slice p ss.length c], .int .i64 k, .agg #[.int .i64 x, .int .i64 y]] w fun e w' =>
      e = .returned (.tuple #[.agg #[.int .i64 (nearR ss k x y).1, .int .i64 (nearR ss k x y).2], .bool (nearOkB ss k x y)]) ∧ Below w.heap.size w w' := by
  have S := (((Since.refl w).alloc (.cells #[.slice p ss.length c] 30)).alloc (.cells #[.int .i64 x, .int .i64 y] 27)).alloc (.cells #[.int .i64 0, .int .i64 0] 27)
  have R := ((hr.alloc (.cells #[.slice p ss.length c] 30)).alloc (.cells #[.int .i64 x, .int .i64 y] 27)).alloc (.cells #[.int .i64 0, .int .i64 0] 27)
  have A := (Blk.new (w.alloc (.cells #[.slice p ss.length c] 30)) #[.int .i64 x, .int .i64 y] 27).alloc (.cells #[.int .i64 0, .int .i64 0] 27)
  have B := Blk.new ((w.alloc (.cells #[.slice p ss.length c] 30)).alloc (.cells #[.int .i64 x, .int .i64 y] 27)) #[.int .i64 0, .int .i64 0] 27
  simp only [World.size_alloc] at A B
  have hv0 : someB ss k = false → nearR ss k x y = (0, 0) ∧ nearOkB ss k x y = false := fun h => by simp [nearR, nearOkB, h]
  have hv1 : hasB (wid ss) ss.length x y = false → nearR ss k x y = (0, 0) ∧ nearOkB ss k x y = false := fun h => by simp [nearR, nearOkB, h]
  have hv2 : someB ss k = true → hasB (wid ss) ss.length x y = true → nearR ss k x y = bestS (farG k x y) (spotsL ss) ∧ nearOkB ss k x y = true := fun h h' => by simp [nearR, nearOkB, h, h']
  have Hv0 := Lib.hid hv0; clear hv0
  have Hv1 := Lib.hid hv1; clear hv1
  have Hv2 := Lib.hid hv2; clear hv2
  go_enter Try.func45, Try.ntmps45
  go_wp2_with fail
  refine (withBlack_any p c ss k _ hn hs R).mono ?_
  rintro e w1 ⟨hb, ⟨h, rfl⟩ | ⟨h, m, g, v, rfl, I, O, hm, hg⟩⟩
  · replace S := S.bl hb
    replace B := B.bl hb
    obtain ⟨v1, v2⟩ := Hv0.out h
    have H := Lib.hid h; clear h
    have V1 := Lib.hid v1; clear v1
    have V2 := Lib.hid v2; clear v2
    clear hb R A
    obtain ⟨e0, f0, e1, f1, t0, t1⟩ := B.two (.int .i64 0) (.int .i64 0)
    go_wp2
    refine bodyPost_ret (v := .tuple #[.agg #[.int .i64 0, .int .i64 0], .bool false]) (by simp [results, Try.results45, go_sem, t0, t1]) rfl ⟨by rw [V1.out, V2.out], (S.set2 (b := w.heap.size + 1 + 1) (by omega) _ _).below⟩
  · replace S := S.bl hb
    replace B := B.bl hb
    replace A := A.bl hb
    have a0 := A.cell 0 rfl
    have a1 := A.cell 1 rfl
    obtain ⟨q, d, rfl⟩ := O.form
    have c1 := has_any m g _ _ _ x y w1 I
    clear hb R
    cases hh : hasB (wid ss) ss.length x y
    · rw [hh] at c1
      obtain ⟨v1, v2⟩ := Hv1.out hh
      have H := Lib.hid h; clear h
      have V1 := Lib.hid v1; clear v1
      have V2 := Lib.hid v2; clear v2
      have C1 := Lib.hid c1; clear c1
      have Hh := Lib.hid hh; clear hh
      obtain ⟨e0, f0, e1, f1, t0, t1⟩ := B.two (.int .i64 0) (.int .i64 0)
      go_wp2_with (go_at_call 91; refine C1.out.mono ?_; rintro e w2 ⟨rfl, rfl⟩)
      refine bodyPost_ret (v := .tuple #[.agg #[.int .i64 0, .int .i64 0], .bool false]) (by simp [results, Try.results45, go_sem, t0, t1]) rfl ⟨by rw [V1.out, V2.out], (S.set2 (b := w.heap.size + 1 + 1) (by omega) _ _).below⟩
    · rw [hh] at c1
      obtain ⟨v1, v2⟩ := Hv2.out h hh
      obtain ⟨ho, hk, h0⟩ := someB_true h
      have hd := okPic_dims ho
      obtain ⟨xn, yn, e1, e2, hxW, hyH⟩ := hasB_nat hh
      have hl := spotsL_len ss
      have c2 := least_any k x y q d (spotsL ss) w1 (by omega) (by omega) (fun s hs => by have := spotsL_mem hs; omega) h0 hl O.rd
      have hlt := leastN_lt (farG k x y) (spotsL ss) (spotsL ss).length h0 (Nat.le_refl _)
      have hbs : bestS (farG k x y) (spotsL ss) = (spotsL ss).getD (leastN (farG k x y) (spotsL ss) (spotsL ss).length) (0, 0) := rfl
      clear hd e1 e2 hxW hyH
      generalize leastN (farG k x y) (spotsL ss) (spotsL ss).length = j at *
      rw [hbs] at v1
      generalize farG k x y (bestS (farG k x y) (spotsL ss)) = D at *
      have H := Lib.hid h; clear h
      have Hh := Lib.hid hh; clear hh
      have C1 := Lib.hid c1; clear c1
      have C2 := Lib.hid c2; clear c2
      have V2 := Lib.hid v2; clear v2
      have Hbs := Lib.hid hbs; clear hbs
      have Ho := Lib.hid ho; clear ho
      have Hk := Lib.hid hk; clear hk
      clear I hm hg
      go_wp2_with (go_at_call 91; refine C1.out.mono ?_; rintro e w2 ⟨rfl, rfl⟩)
      refine C2.out.mono ?_
      rintro e w2 ⟨rfl, hb2⟩
      replace S := S.bl hb2
      replace B := B.bl hb2
      have O2 := O.bl hb2
      obtain ⟨b, o, rfl, hb, hc⟩ := O2.rd.at (k := j * 2) (by omega)
      have b0 := hc (j * 2) (by omega)
      have b1 := hc (j * 2 + 1) (by omega)
      rw [spotAt_x] at b0
      rw [spotAt_y, ← Nat.add_assoc] at b1
      have hj0 : (0 : Int) ≤ (j : Int) := Int.natCast_nonneg _
      have hj1 : (j : Int) < ((spotsL ss).length : Int) := by omega
      obtain ⟨N, eN⟩ : ∃ N, (spotsL ss).length = N := ⟨_, rfl⟩
      obtain ⟨⟨bx, bY⟩, eS⟩ : ∃ s, (spotsL ss).getD j (0, 0) = s := ⟨_, rfl⟩
      rw [eS] at b0 b1 v1
      dsimp only at b0 b1
      rw [eN] at hl hj1
      have V1 := Lib.hid v1; clear v1
      have EN := Lib.hid eN; clear eN
      clear hc O O2 hb2 eS A a0 a1
      rw [EN.out]
      have hlB := B.lt
      obtain ⟨e0, f0, e1, f1, t0, t1⟩ := B.two (.int .i64 bx) (.int .i64 bY)
      go_wp2
      refine bodyPost_ret (v := .tuple #[.agg #[.int .i64 bx, .int .i64 bY], .bool true]) (by simp [results, Try.results45, go_sem, t0, t1]) rfl ⟨by rw [V1.out, V2.out], (S.set2 (b := w.heap.size + 1 + 1) (by omega) _ _).below⟩
end Go.Proofs.Ytakoklldmdbphaa
