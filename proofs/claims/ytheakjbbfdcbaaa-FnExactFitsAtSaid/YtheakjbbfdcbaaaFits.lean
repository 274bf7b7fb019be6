/- Contracts of the reference's and the program's FitsAt. -/
import Derived.Test.YtheakjbbfdcbaaaSpecElem
import Derived.Test.YtheakjbbfdcbaaaAllSpots
import Derived.Test.YtheakjbbfdcbaaaSpecIn
set_option linter.unusedVariables false
namespace Go.Proofs.Ytheakjbbfdcbaaa
open Go.RowKit

/-- Are the pixels at all offsets from a spot black? -/
def fitF (ss : List ByteArray) (x y : Int) (o : Int × Int) : Bool := px (wid ss) ss.length (bits ss) (x + o.1) (y + o.2)
def fitOk (ss : List ByteArray) (l : List (Int × Int)) (x y : Int) : Bool := okPic ss && (okEl l && (inB x (-16) 32 && inB y (-16) 32))
def fitR (ss : List ByteArray) (l : List (Int × Int)) (x y : Int) : Bool := fitOk ss l x y && l.all (fitF ss x y)
theorem okEl_bd {l : List (Int × Int)} (h : okEl l = true) : ∀ s ∈ l, (-4 ≤ s.1 ∧ s.1 ≤ 4) ∧ (-4 ≤ s.2 ∧ s.2 ≤ 4) := by
  intro s hs
  simp only [okEl, Bool.and_eq_true, List.all_eq_true, List.mem_range] at h
  obtain ⟨i, hi, rfl⟩ := List.mem_iff_getElem.1 hs
  have := h.1 i hi
  simp only [elB, Bool.and_eq_true] at this
  have e : l.getD i (0, 0) = l[i] := by simp [List.getD, List.getElem?_eq_getElem hi]
  rw [e] at this
  exact ⟨inB_true this.1.1, inB_true this.1.2⟩

set_option maxRecDepth 100000 in
set_option maxHeartbeats 4000000 in
theorem l03Fits_any (a b : Nat) (p q : Option Addr) (c d : Nat) (ss : List ByteArray) (l : List (Int × Int)) (x y : Int) (w : World) (P : PicAt w a p c ss) (hA : CellAt w b 0 (.slice q l.length d)) (hr : Rd w q (l.length * 2) (spotAt l))
    (hn : l.length ≤ 1048576) (hl : ∀ s ∈ l, (-4 ≤ s.1 ∧ s.1 ≤ 4) ∧ (-4 ≤ s.2 ∧ s.2 ≤ 4)) (hx : -16 ≤ x ∧ x ≤ 32) (hy : -16 ≤ y ∧ y ≤ 32) :
    Calls Try.prog 52 #[.pointer (some ⟨a, 0, none⟩), .pointer (some ⟨b, 0, none⟩), .int .i64 x, .int .i64 y] w fun e w' => e = .returned (.bool (l.all (fitF ss x y))) ∧ ∃ n, w' = w.drewN n := by
  have a0 := hA.out
  obtain ⟨x1, x2⟩ := hx
  obtain ⟨y1, y2⟩ := hy
  have k3 := fun u v n => l01Black_any a p c ss u v (w.drewN n) (P.drewN n)
  have Hl := Lib.hid hl; clear hl
  have K3 := Lib.hid k3; clear k3
  go_enter Try.func52, Try.ntmps52
  go_wp2
  go_loopw [9] (fun i wr => ∃ j : Nat, j ≤ l.length ∧ i = .int .i64 j ∧ (l.take j).all (fitF ss x y) = true ∧ ∃ n, wr = w.drewN n) (fun i _ => l.length - (intOf i).toNat)
  case atStart => exact ⟨0, Nat.zero_le _, rfl, by simp, 0, rfl⟩
  case round =>
    obtain ⟨j, hj, rfl, hall, n, rfl⟩ := hrel
    by_cases hlt : j < l.length
    · have hs1 := Hl.out _ (getD_memS hlt)
      obtain ⟨b', o, rfl, hb, hc⟩ := hr.at (k := j * 2) (by omega)
      have c0 := hc (j * 2) (by omega)
      have c1 := hc (j * 2 + 1) (by omega)
      rw [spotAt_x] at c0
      rw [spotAt_y, ← Nat.add_assoc] at c1
      have hj0 : (0 : Int) ≤ (j : Int) := Int.natCast_nonneg _
      have hj1 : (j : Int) < (l.length : Int) := by omega
      have hsu : (l.take (j + 1)).all (fitF ss x y) = ((l.take j).all (fitF ss x y) && fitF ss x y (l.getD j (0, 0))) := by rw [spots_take hlt]; simp [List.all_append]
      have hno : fitF ss x y (l.getD j (0, 0)) = false → l.all (fitF ss x y) = false := fun h => by
        rw [List.all_eq_false]
        exact ⟨_, getD_memS hlt, by rw [h]; simp⟩
      rw [hall] at hsu
      have hf : fitF ss x y (l.getD j (0, 0)) = px (wid ss) ss.length (bits ss) (x + (l.getD j (0, 0)).1) (y + (l.getD j (0, 0)).2) := rfl
      rw [hf] at hsu hno
      generalize (l.getD j (0, 0)).1 = u at *
      generalize (l.getD j (0, 0)).2 = v at *
      have hw1 : IntKind.i64.wrap (x + u) = x + u := IntWalk.i64_in _ (by omega)
      have hw2 : IntKind.i64.wrap (y + v) = y + v := IntWalk.i64_in _ (by omega)
      have cb := K3.out (x + u) (y + v)
      obtain ⟨wr, ewr⟩ : ∃ wr, wr = w.drewN n := ⟨_, rfl⟩
      cases hp : px (wid ss) ss.length (bits ss) (x + u) (y + v)
      · rw [hp] at cb hno
        have hv := hno rfl
        have cb2 : ∀ m, Calls Try.prog 68 #[.pointer (some ⟨a, 0, none⟩), .int .i64 (x + u), .int .i64 (y + v)] (w.drewN (n + m)) fun e w' => e = .returned (.bool false) ∧ ∃ m', w' = w.drewN (n + m') :=
          fun m => (cb (n + m)).mono fun e w' ⟨he, k, hk⟩ => ⟨he, m + k, by rw [hk, World.drewN_drewN, Nat.add_assoc]⟩
        have Cb2 := Lib.hid cb2; clear cb2
        have Hv := Lib.hid hv; clear hv
        have Hp := Lib.hid hp; clear hp
        have Hall := Lib.hid hall; clear hall
        have Hf := Lib.hid hf; clear hf
        clear cb hno hsu hc hr K3 ewr
        go_wp2
        go_quiet ((go_at_call 68; exact Cb2.out _))
        go_wp2
        go_ret
        exact ⟨by rw [Hv.out]; try rfl, n + nq, by first | rfl | exact World.drewN_drewN _ _ _⟩
      · rw [hp] at cb hsu
        have cb2 : ∀ m, Calls Try.prog 68 #[.pointer (some ⟨a, 0, none⟩), .int .i64 (x + u), .int .i64 (y + v)] (w.drewN (n + m)) fun e w' => e = .returned (.bool true) ∧ ∃ m', w' = w.drewN (n + m') :=
          fun m => (cb (n + m)).mono fun e w' ⟨he, k, hk⟩ => ⟨he, m + k, by rw [hk, World.drewN_drewN, Nat.add_assoc]⟩
        have Cb2 := Lib.hid cb2; clear cb2
        have Hsu := Lib.hid hsu; clear hsu
        have Hp := Lib.hid hp; clear hp
        have Hall := Lib.hid hall; clear hall
        have Hf := Lib.hid hf; clear hf
        clear cb hno hc hr K3 ewr
        go_wp2
        go_quiet ((go_at_call 68; exact Cb2.out _))
        go_wp2
        go_roundw
        case rel => exact ⟨j + 1, by omega, by go_num, Hsu.out, n + nq, by first | rfl | exact World.drewN_drewN _ _ _⟩
        case measure => simp [intOf]; omega
    · obtain rfl : j = l.length := by omega
      rw [List.take_of_length_le (Nat.le_refl _)] at hall
      have Hall := Lib.hid hall; clear hall
      go_wp2
      go_ret
      exact ⟨by rw [Hall.out]; try rfl, n, rfl⟩
set_option maxHeartbeats 4000000 in
theorem sFitsAt_any (p q : Option Addr) (c d : Nat) (ss : List ByteArray) (l : List (Int × Int)) (x y : Int) (w : World) (hn : ss.length ≤ 1048576) (hs : ∀ s ∈ ss, s.size ≤ 1048576) (hr : Rd w p ss.length (strAt ss)) (hn2 : l.length ≤ 1048576) (hq : Rd w q (l.length * 2) (spotAt l)) :
    Calls Try.prog 20 #[.agg #[.slice p ss.length c], .agg #[.slice q l.length d], .agg #[.int .i64 x, .int .i64 y]] w fun e w' => e = .returned (.bool (fitR ss l x y)) ∧ Below w.heap.size w w' := by
  have S := (((Since.refl w).alloc (.cells #[.slice p ss.length c] 43)).alloc (.cells #[.slice q l.length d] 28)).alloc (.cells #[.int .i64 x, .int .i64 y] 45)
  have P : PicVar (((w.alloc (.cells #[.slice p ss.length c] 43)).alloc (.cells #[.slice q l.length d] 28)).alloc (.cells #[.int .i64 x, .int .i64 y] 45)) w.heap.size p c ss := ⟨(((Blk.new w #[.slice p ss.length c] 43).alloc _).alloc _).cell 0 rfl, ((hr.alloc _).alloc _).alloc _⟩
  have Eb := (Blk.new (w.alloc (.cells #[.slice p ss.length c] 43)) #[.slice q l.length d] 28).alloc (.cells #[.int .i64 x, .int .i64 y] 45)
  have A := Blk.new ((w.alloc (.cells #[.slice p ss.length c] 43)).alloc (.cells #[.slice q l.length d] 28)) #[.int .i64 x, .int .i64 y] 45
  simp only [World.size_alloc] at A Eb
  have E0 := Eb.cat 0 rfl
  have Q := ((hq.alloc (.cells #[.slice p ss.length c] 43)).alloc (.cells #[.slice q l.length d] 28)).alloc (.cells #[.int .i64 x, .int .i64 y] 45)
  have c0 := l01Is_any w.heap.size p c ss _ hn hs P.box P.rd
  have c1 := fun w' h h' => l03Is_any (w.heap.size + 1) q d l w' hn2 h h'
  have hv0 : fitOk ss l x y = false → fitR ss l x y = false := fun h => by simp [fitR, h]
  clear Eb
  cases hok : okPic ss
  · have hv := hv0 (by simp [fitOk, hok])
    rw [hok] at c0
    rw [hv]
    have C0 := Lib.hid c0; clear c0
    have Hok := Lib.hid hok; clear hok
    have Hv := Lib.hid hv; clear hv
    clear c1 hv0
    go_enter Try.func20, Try.ntmps20
    go_wp2_with fail
    refine C0.out.mono ?_
    rintro e w1 ⟨rfl, n, rfl⟩
    have S1 := S.bl (bl_drewN _ n)
    go_wp2
    go_ret
    exact ⟨rfl, S1.below⟩
  · rw [hok] at c0
    have P1 := P.at hok
    cases hel : okEl l
    · have hv := hv0 (by simp [fitOk, hel])
      rw [hel] at c1
      rw [hv]
      have C0 := Lib.hid c0; clear c0
      have C1 := Lib.hid c1; clear c1
      have Hok := Lib.hid hok; clear hok
      have Hel := Lib.hid hel; clear hel
      have Hv := Lib.hid hv; clear hv
      clear hv0
      go_enter Try.func20, Try.ntmps20
      go_wp2_with fail
      refine C0.out.mono ?_
      rintro e w1 ⟨rfl, n, rfl⟩
      have S1 := S.bl (bl_drewN _ n)
      go_wp2_with fail
      refine (C1.out _ (E0.bl (bl_drewN _ n)) (Q.bl (bl_drewN _ n))).mono ?_
      rintro e w1 ⟨rfl, hb⟩
      have S2 := S1.bl hb
      go_wp2
      go_ret
      exact ⟨rfl, S2.below⟩
    · rw [hel] at c1
      cases e1 : inB x (-16) 32
      · have hv := hv0 (by simp [fitOk, e1])
        rw [hv]
        have C0 := Lib.hid c0; clear c0
        have C1 := Lib.hid c1; clear c1
        have Hok := Lib.hid hok; clear hok
        have Hel := Lib.hid hel; clear hel
        have Hv := Lib.hid hv; clear hv
        clear hv0
        go_enter Try.func20, Try.ntmps20
        go_wp2_with fail
        refine C0.out.mono ?_
        rintro e w1 ⟨rfl, n, rfl⟩
        have S1 := S.bl (bl_drewN _ n)
        have A1 := A.bl (bl_drewN _ n)
        go_wp2_with fail
        refine (C1.out _ (E0.bl (bl_drewN _ n)) (Q.bl (bl_drewN _ n))).mono ?_
        rintro e w1 ⟨rfl, hb⟩
        have S2 := S1.bl hb
        have A2 := A1.bl hb
        have a0 := A2.cell 0 rfl
        have a1 := A2.cell 1 rfl
        go_wp2_with (go_at_call 51; refine (l00In_any _ _ _ _).mono ?_; rintro e w' ⟨rfl, rfl⟩)
        go_ret
        exact ⟨rfl, S2.below⟩
      · cases e2 : inB y (-16) 32
        · have hv := hv0 (by simp [fitOk, e2])
          rw [hv]
          have C0 := Lib.hid c0; clear c0
          have C1 := Lib.hid c1; clear c1
          have Hok := Lib.hid hok; clear hok
          have Hel := Lib.hid hel; clear hel
          have Hv := Lib.hid hv; clear hv
          clear hv0
          go_enter Try.func20, Try.ntmps20
          go_wp2_with fail
          refine C0.out.mono ?_
          rintro e w1 ⟨rfl, n, rfl⟩
          have S1 := S.bl (bl_drewN _ n)
          have A1 := A.bl (bl_drewN _ n)
          go_wp2_with fail
          refine (C1.out _ (E0.bl (bl_drewN _ n)) (Q.bl (bl_drewN _ n))).mono ?_
          rintro e w1 ⟨rfl, hb⟩
          have S2 := S1.bl hb
          have A2 := A1.bl hb
          have a0 := A2.cell 0 rfl
          have a1 := A2.cell 1 rfl
          go_wp2_with (go_at_call 51; refine (l00In_any _ _ _ _).mono ?_; rintro e w' ⟨rfl, rfl⟩)
          go_ret
          exact ⟨rfl, S2.below⟩
        · have hv : fitR ss l x y = l.all (fitF ss x y) := by simp [fitR, fitOk, hok, hel, e1, e2]
          have c2 := fun w' h h' h'' => l03Fits_any w.heap.size (w.heap.size + 1) p q c d ss l x y w' h h' h'' hn2 (okEl_bd hel) (inB_true e1) (inB_true e2)
          rw [hv]
          have C0 := Lib.hid c0; clear c0
          have C1 := Lib.hid c1; clear c1
          have C2 := Lib.hid c2; clear c2
          have Hok := Lib.hid hok; clear hok
          have Hel := Lib.hid hel; clear hel
          have Hv := Lib.hid hv; clear hv
          clear hv0
          go_enter Try.func20, Try.ntmps20
          go_wp2_with fail
          refine C0.out.mono ?_
          rintro e w1 ⟨rfl, n, rfl⟩
          have S1 := S.bl (bl_drewN _ n)
          have A1 := A.bl (bl_drewN _ n)
          have E1 := E0.bl (bl_drewN _ n)
          have Q1 := Q.bl (bl_drewN _ n)
          have P2 := P1.bl (bl_drewN _ n)
          go_wp2_with fail
          refine (C1.out _ E1 Q1).mono ?_
          rintro e w1 ⟨rfl, hb⟩
          replace S1 := S1.bl hb
          replace A1 := A1.bl hb
          replace E1 := E1.bl hb
          replace Q1 := Q1.bl hb
          replace P2 := P2.bl hb
          clear hb
          have a0 := A1.cell 0 rfl
          have a1 := A1.cell 1 rfl
          go_wp2_with (go_at_call 51; refine (l00In_any _ _ _ _).mono ?_; rintro e w' ⟨rfl, rfl⟩)
          refine (C2.out _ P2 E1 Q1).mono ?_
          rintro e w2 ⟨rfl, n2, rfl⟩
          have S2 := S1.bl (bl_drewN _ n2)
          go_wp2
          go_ret
          exact ⟨rfl, S2.below⟩
theorem callFunc_fits1 : ∀ args w, (callFunc 73 args).run Try.prog w = .ok (.enter 73 args) w := fun args w => by kernel_rfl
set_option maxHeartbeats 4000000 in
theorem fits1_any (m g : Nat) (ss : List ByteArray) (x y u v : Int) (mb xb yb : Nat) (t1 t2 t3 : TypeId) (w : World) (I : Img w m g (wid ss) ss.length (bits ss)) (M : Box w mb (.pointer (some ⟨m, 0, none⟩)) t1) (X : Box w xb (.int .i64 x) t2) (Y : Box w yb (.int .i64 y) t3)
    (hx : -16 ≤ x ∧ x ≤ 32) (hy : -16 ≤ y ∧ y ≤ 32) (hu : -4 ≤ u ∧ u ≤ 4) (hv : -4 ≤ v ∧ v ≤ 4) :
    Calls Try.prog 73 #[.agg #[.int .i64 u, .int .i64 v], .pointer (some ⟨mb, 0, none⟩), .pointer (some ⟨xb, 0, none⟩), .pointer (some ⟨yb, 0, none⟩)] w fun e w' => e = .returned (.bool (fitF ss x y (u, v))) ∧ Below w.heap.size w w' := by
  have h0 := bl_alloc w (.cells #[.int .i64 u, .int .i64 v] 45)
  have m0 := (M.bl h0).cell
  have x0 := (X.bl h0).cell
  have y0 := (Y.bl h0).cell
  have l1 := M.lt
  have l2 := X.lt
  have l3 := Y.lt
  obtain ⟨x1, x2⟩ := hx
  obtain ⟨y1, y2⟩ := hy
  obtain ⟨u1, u2⟩ := hu
  obtain ⟨v1, v2⟩ := hv
  have c0 := get_any m g _ _ _ (x + u) (y + v) _ (I.bl h0)
  have hf : fitF ss x y (u, v) = px (wid ss) ss.length (bits ss) (x + u) (y + v) := rfl
  rw [hf]
  have C0 := Lib.hid c0; clear c0
  have Hf := Lib.hid hf; clear hf
  clear I M X Y
  go_enter Try.func73, Try.ntmps73
  go_wp2_with fail
  refine C0.out.mono ?_
  rintro e w1 ⟨rfl, n, rfl⟩
  have h1 := bl_trans h0 (bl_drewN _ n)
  go_wp2
  go_ret
  exact ⟨rfl, h1⟩
set_option maxHeartbeats 4000000 in
theorem fits_any (m g : Nat) (ss : List ByteArray) (q : Option Addr) (d : Nat) (l : List (Int × Int)) (x y : Int) (w : World) (I : Img w m g (wid ss) ss.length (bits ss)) (hr : Rd w q (l.length * 2) (spotAt l)) (hn : l.length ≤ 1048576)
    (hx : -16 ≤ x ∧ x ≤ 32) (hy : -16 ≤ y ∧ y ≤ 32) (hl : ∀ s ∈ l, (-4 ≤ s.1 ∧ s.1 ≤ 4) ∧ (-4 ≤ s.2 ∧ s.2 ≤ 4)) :
    Calls Try.prog 55 #[.pointer (some ⟨m, 0, none⟩), .slice q l.length d, .int .i64 x, .int .i64 y] w fun e w' => e = .returned (.bool (l.all (fitF ss x y))) ∧ Below w.heap.size w w' := by
  have S := (((Since.refl w).alloc (.cells #[.pointer (some ⟨m, 0, none⟩)] 75)).alloc (.cells #[.int .i64 x] 2)).alloc (.cells #[.int .i64 y] 2)
  have M := ((Box.new w (.pointer (some ⟨m, 0, none⟩)) 75).alloc (.cells #[.int .i64 x] 2)).alloc (.cells #[.int .i64 y] 2)
  have X := (Box.new (w.alloc (.cells #[.pointer (some ⟨m, 0, none⟩)] 75)) (.int .i64 x) 2).alloc (.cells #[.int .i64 y] 2)
  have Y := Box.new ((w.alloc (.cells #[.pointer (some ⟨m, 0, none⟩)] 75)).alloc (.cells #[.int .i64 x] 2)) (.int .i64 y) 2
  simp only [World.size_alloc] at X Y
  have I1 := ((I.bl (bl_alloc w (.cells #[.pointer (some ⟨m, 0, none⟩)] 75))).bl (bl_alloc _ (.cells #[.int .i64 x] 2))).bl (bl_alloc _ (.cells #[.int .i64 y] 2))
  have R1 := ((hr.alloc (.cells #[.pointer (some ⟨m, 0, none⟩)] 75)).alloc (.cells #[.int .i64 x] 2)).alloc (.cells #[.int .i64 y] 2)
  have c0 := all_any 73 #[.pointer (some ⟨w.heap.size, 0, none⟩), .pointer (some ⟨w.heap.size + 1, 0, none⟩), .pointer (some ⟨w.heap.size + 1 + 1, 0, none⟩)] q d l (fitF ss x y) _ hn R1 callFunc_fits1
    (fun s w' hs hb => fits1_any m g ss x y s.1 s.2 _ _ _ _ _ _ w' (I1.bl hb) (M.bl hb) (X.bl hb) (Y.bl hb) hx hy (hl s hs).1 (hl s hs).2)
  have C0 := Lib.hid c0; clear c0
  clear I I1 M X Y R1 hr
  go_enter Try.func55, Try.ntmps55
  go_wp2_with fail
  refine C0.out.mono ?_
  rintro e w1 ⟨rfl, hb⟩
  have S1 := S.bl hb
  go_wp2
  go_ret
  exact ⟨rfl, S1.below⟩
set_option maxHeartbeats 4000000 in
theorem fitsAt_any (p q : Option Addr) (c d : Nat) (ss : List ByteArray) (l : List (Int × Int)) (x y : Int) (w : World) (hn : ss.length ≤ 1048576) (hs : ∀ s ∈ ss, s.size ≤ 1048576) (hr : Rd w p ss.length (strAt ss)) (hn2 : l.length ≤ 1048576) (hq : Rd w q (l.length * 2) (spotAt l)) :
    Calls Try.prog 23 #[.agg #[.slice p ss.length c], .agg #[.slice q l.length d], .agg #[.int .i64 x, .int .i64 y]] w fun e w' => e = .returned (.bool (fitR ss l x y)) ∧ Below w.heap.size w w' := by
  have S := (((Since.refl w).alloc (.cells #[.slice p ss.length c] 43)).alloc (.cells #[.slice q l.length d] 28)).alloc (.cells #[.int .i64 x, .int .i64 y] 45)
  have Eb := (Blk.new (w.alloc (.cells #[.slice p ss.length c] 43)) #[.slice q l.length d] 28).alloc (.cells #[.int .i64 x, .int .i64 y] 45)
  have A := Blk.new ((w.alloc (.cells #[.slice p ss.length c] 43)).alloc (.cells #[.slice q l.length d] 28)) #[.int .i64 x, .int .i64 y] 45
  simp only [World.size_alloc] at A Eb
  have R := ((hr.alloc (.cells #[.slice p ss.length c] 43)).alloc (.cells #[.slice q l.length d] 28)).alloc (.cells #[.int .i64 x, .int .i64 y] 45)
  have Q := ((hq.alloc (.cells #[.slice p ss.length c] 43)).alloc (.cells #[.slice q l.length d] 28)).alloc (.cells #[.int .i64 x, .int .i64 y] 45)
  have hv0 : fitOk ss l x y = false → fitR ss l x y = false := fun h => by simp [fitR, h]
  have hp0 : okPic ss = false → fitOk ss l x y = false := fun h => by simp [fitOk, h]
  have he0 : okEl l = false → fitOk ss l x y = false := fun h => by simp [fitOk, h]
  have hx0 : inB x (-16) 32 = false → fitOk ss l x y = false := fun h => by simp [fitOk, h]
  have hy0 : inB y (-16) 32 = false → fitOk ss l x y = false := fun h => by simp [fitOk, h]
  have hv1 : okPic ss = true → okEl l = true → inB x (-16) 32 = true → inB y (-16) 32 = true → fitR ss l x y = l.all (fitF ss x y) := fun h1 h2 h3 h4 => by simp [fitR, fitOk, h1, h2, h3, h4]
  have e0 := Eb.cell 0 rfl
  have Hv0 := Lib.hid hv0; clear hv0
  have Hp0 := Lib.hid hp0; clear hp0
  have He0 := Lib.hid he0; clear he0
  have Hx0 := Lib.hid hx0; clear hx0
  have Hy0 := Lib.hid hy0; clear hy0
  have Hv1 := Lib.hid hv1; clear hv1
  go_enter Try.func23, Try.ntmps23
  go_wp2_with fail
  refine (imageOf_any p c ss _ hn hs R).mono ?_
  rintro e w1 ⟨hb, ⟨h, rfl⟩ | ⟨h, m, g, rfl, I, hm, hg⟩⟩
  · replace S := S.bl hb
    have v1 := Hv0.out (Hp0.out h)
    have H := Lib.hid h; clear h
    have V1 := Lib.hid v1; clear v1
    clear hb R Q Eb A e0
    go_wp2
    go_ret
    exact ⟨ret_bool V1.out.symm, S.below⟩
  · clear e0
    replace S := S.bl hb
    replace Eb := Eb.bl hb
    replace A := A.bl hb
    replace Q := Q.bl hb
    clear hb R hm hg
    have e0 := Eb.cell 0 rfl
    have c1 := validElement_any q d l w1 hn2 Q
    cases hel : okEl l
    · rw [hel] at c1
      have v1 := Hv0.out (He0.out hel)
      have H := Lib.hid h; clear h
      have V1 := Lib.hid v1; clear v1
      have C1 := Lib.hid c1; clear c1
      have Hel := Lib.hid hel; clear hel
      go_wp2_with fail
      refine C1.out.mono ?_
      rintro e w2 ⟨rfl, hb⟩
      replace S := S.bl hb
      clear hb e0 Q Eb A I
      go_wp2
      go_ret
      exact ⟨ret_bool V1.out.symm, S.below⟩
    · rw [hel] at c1
      cases e1 : inB x (-16) 32
      · have v1 := Hv0.out (Hx0.out e1)
        have H := Lib.hid h; clear h
        have V1 := Lib.hid v1; clear v1
        have C1 := Lib.hid c1; clear c1
        have Hel := Lib.hid hel; clear hel
        go_wp2_with fail
        refine C1.out.mono ?_
        rintro e w2 ⟨rfl, hb⟩
        replace S := S.bl hb
        replace A := A.bl hb
        clear hb e0 Q Eb I
        have a0 := A.cell 0 rfl
        have a1 := A.cell 1 rfl
        go_wp2_with (go_at_call 48; refine (in_any _ _ _ _).mono ?_; rintro e w' ⟨rfl, rfl⟩)
        go_ret
        exact ⟨ret_bool V1.out.symm, S.below⟩
      · cases e2 : inB y (-16) 32
        · have v1 := Hv0.out (Hy0.out e2)
          have H := Lib.hid h; clear h
          have V1 := Lib.hid v1; clear v1
          have C1 := Lib.hid c1; clear c1
          have Hel := Lib.hid hel; clear hel
          go_wp2_with fail
          refine C1.out.mono ?_
          rintro e w2 ⟨rfl, hb⟩
          replace S := S.bl hb
          replace A := A.bl hb
          clear hb e0 Q Eb I
          have a0 := A.cell 0 rfl
          have a1 := A.cell 1 rfl
          go_wp2_with (go_at_call 48; refine (in_any _ _ _ _).mono ?_; rintro e w' ⟨rfl, rfl⟩)
          go_ret
          exact ⟨ret_bool V1.out.symm, S.below⟩
        · have v1 := Hv1.out h hel e1 e2
          have hbd := okEl_bd hel
          have cf := fun w' I R => fits_any m g ss q d l x y w' I R hn2 (inB_true e1) (inB_true e2) hbd
          have H := Lib.hid h; clear h
          have V1 := Lib.hid v1; clear v1
          have C1 := Lib.hid c1; clear c1
          have Hel := Lib.hid hel; clear hel
          have Cf := Lib.hid cf; clear cf
          have Hbd := Lib.hid hbd; clear hbd
          go_wp2_with fail
          refine C1.out.mono ?_
          rintro e w2 ⟨rfl, hb⟩
          clear e0
          replace S := S.bl hb
          replace A := A.bl hb
          replace Eb := Eb.bl hb
          replace Q := Q.bl hb
          replace I := I.bl hb
          clear hb
          have e0 := Eb.cell 0 rfl
          have a0 := A.cell 0 rfl
          have a1 := A.cell 1 rfl
          go_wp2_with (go_at_call 48; refine (in_any _ _ _ _).mono ?_; rintro e w' ⟨rfl, rfl⟩)
          refine (Cf.out _ I Q).mono ?_
          rintro e w3 ⟨rfl, hb⟩
          replace S := S.bl hb
          clear hb e0 a0 a1
          go_wp2
          go_ret
          exact ⟨ret_bool V1.out.symm, S.below⟩
end Go.Proofs.Ytheakjbbfdcbaaa
