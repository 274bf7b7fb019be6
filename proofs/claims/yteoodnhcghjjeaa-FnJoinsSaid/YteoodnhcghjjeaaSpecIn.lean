/- Contracts of the reference's l01Like, l01Inside and IsInside. -/
import Derived.Test.YteoodnhcghjjeaaSpecOps
set_option linter.unusedVariables false
namespace Go.Proofs.Yteoodnhcghjjeaa
open Go.RowKit

/-- A picture behind a pointer: its rows lie in the variable of block a. -/
structure PicVar (w : World) (a : Nat) (p : Option Addr) (c : Nat) (ss : List ByteArray) : Prop where
  box : w.cell? ⟨a, 0, none⟩ = some (.slice p ss.length c)
  rd : Rd w p ss.length (strAt ss)
theorem PicVar.lt {w : World} {a : Nat} {p : Option Addr} {c : Nat} {ss : List ByteArray} (h : PicVar w a p c ss) : a < w.heap.size := World.block_lt_of_cell? _ _ h.box
theorem PicVar.bl {w w' : World} {a : Nat} {p : Option Addr} {c : Nat} {ss : List ByteArray} (h : PicVar w a p c ss) (hb : Below w.heap.size w w') : PicVar w' a p c ss :=
  ⟨(hb.cell (p := ⟨a, 0, none⟩) h.lt).trans h.box, h.rd.bl hb⟩
theorem PicVar.at {w : World} {a : Nat} {p : Option Addr} {c : Nat} {ss : List ByteArray} (h : PicVar w a p c ss) (ho : okPic ss = true) : PicAt w a p c ss := ⟨ho, h.box, h.rd⟩

/-- Two valid pictures of one size. -/
def likeB (ss ts : List ByteArray) : Bool := okPic ss && (okPic ts && (((wid ss : Int) == (wid ts : Int)) && ((ss.length : Int) == (ts.length : Int))))
theorem likeB_true {ss ts : List ByteArray} (h : likeB ss ts = true) : okPic ss = true ∧ okPic ts = true ∧ wid ss = wid ts ∧ ss.length = ts.length := by
  simp only [likeB, Bool.and_eq_true, beq_iff_eq] at h
  exact ⟨h.1, h.2.1, by omega, by omega⟩
/-- Of the first n pixels, are the black ones black in the other picture too? -/
def inTo (f g : Nat → Bool) (n : Nat) : Bool := (List.range n).all fun i => !(f i && !g i)
theorem inTo_succ (f g : Nat → Bool) (n : Nat) : inTo f g (n + 1) = (inTo f g n && !(f n && !g n)) := by simp [inTo, List.range_succ, List.all_append]
theorem inTo_le {f g : Nat → Bool} {n m : Nat} (h : inTo f g n = false) (hm : n ≤ m) : inTo f g m = false := by
  simp only [inTo, List.all_eq_false, List.mem_range] at h ⊢
  obtain ⟨x, hx, h⟩ := h
  exact ⟨x, by omega, h⟩

set_option maxHeartbeats 2000000 in
theorem l01Like_any (a b : Nat) (p q : Option Addr) (c d : Nat) (ss ts : List ByteArray) (w : World) (hn : ss.length ≤ 1048576) (hs : ∀ s ∈ ss, s.size ≤ 1048576) (hn2 : ts.length ≤ 1048576) (hs2 : ∀ s ∈ ts, s.size ≤ 1048576)
    (P : PicVar w a p c ss) (Q : PicVar w b q d ts) :
    Calls Try.prog 69 #[.pointer (some ⟨a, 0, none⟩), .pointer (some ⟨b, 0, none⟩)] w fun e w' => e = .returned (.bool (likeB ss ts)) ∧ Below w.heap.size w w' := by
  have c0 := fun w (h : PicVar w a p c ss) => l01Is_any a p c ss w hn hs h.box h.rd
  have c1 := fun w (h : PicVar w b q d ts) => l01Is_any b q d ts w hn2 hs2 h.box h.rd
  cases hok : okPic ss
  · rw [hok] at c0
    have hv : likeB ss ts = false := by simp [likeB, hok]
    have C0 := Lib.hid c0; clear c0
    have C1 := Lib.hid c1; clear c1
    have Hok := Lib.hid hok; clear hok
    have Hv := Lib.hid hv; clear hv
    go_enter Try.func69, Try.ntmps69
    go_wp2_with fail
    refine (C0.out _ P).mono ?_
    rintro e w1 ⟨rfl, n, rfl⟩
    go_wp2
    go_ret
    exact ⟨ret_bool Hv.out.symm, bl_drewN _ _⟩
  · rw [hok] at c0
    have P1 := P.at hok
    cases hok2 : okPic ts
    · rw [hok2] at c1
      have hv : likeB ss ts = false := by simp [likeB, hok2]
      have C0 := Lib.hid c0; clear c0
      have C1 := Lib.hid c1; clear c1
      have Hok := Lib.hid hok; clear hok
      have Hok2 := Lib.hid hok2; clear hok2
      have Hv := Lib.hid hv; clear hv
      go_enter Try.func69, Try.ntmps69
      go_wp2_with fail
      refine (C0.out _ P).mono ?_
      rintro e w1 ⟨rfl, n, rfl⟩
      go_wp2_with fail
      refine (C1.out _ (Q.bl (bl_drewN _ _))).mono ?_
      rintro e w1 ⟨rfl, m, rfl⟩
      go_wp2
      go_ret
      exact ⟨ret_bool Hv.out.symm, bl_drewN _ _⟩
    · rw [hok2] at c1
      have Q1 := Q.at hok2
      have d1 := okPic_dims hok
      have d2 := okPic_dims hok2
      have k1 := fun w h => l01Width_any a p c ss w h
      have k2 := fun w h => l01Width_any b q d ts w h
      have k3 := fun w h => l01Height_any a p c ss w h
      have k4 := fun w h => l01Height_any b q d ts w h
      have hv : likeB ss ts = (((wid ss : Int) == (wid ts : Int)) && ((ss.length : Int) == (ts.length : Int))) := by simp [likeB, hok, hok2]
      generalize likeB ss ts = r at *
      obtain ⟨d11, d12, d13, d14⟩ := d1
      obtain ⟨d21, d22, d23, d24⟩ := d2
      cases hw : ((wid ss : Int) == (wid ts : Int))
      · rw [hw] at hv
        have hW := Lib.hid hw
        have C0 := Lib.hid c0; clear c0
        have C1 := Lib.hid c1; clear c1
        have K1 := Lib.hid k1; clear k1
        have K2 := Lib.hid k2; clear k2
        have K3 := Lib.hid k3; clear k3
        have K4 := Lib.hid k4; clear k4
        have Hok := Lib.hid hok; clear hok
        have Hok2 := Lib.hid hok2; clear hok2
        have Hv := Lib.hid hv; clear hv
        go_enter Try.func69, Try.ntmps69
        go_wp2_with fail
        refine (C0.out _ P).mono ?_
        rintro e w1 ⟨rfl, n, rfl⟩
        go_wp2_with fail
        refine (C1.out _ (Q.bl (bl_drewN _ _))).mono ?_
        rintro e w1 ⟨rfl, m, rfl⟩
        have P2 := P1.bl (bl_drewN w (n + m))
        have Q2 := Q1.bl (bl_drewN w (n + m))
        go_wp2_with fail
        refine (K1.out _ P2).mono ?_
        rintro e w1 ⟨rfl, rfl⟩
        go_wp2_with fail
        refine (K2.out _ Q2).mono ?_
        rintro e w1 ⟨rfl, rfl⟩
        go_wp2
        go_ret
        exact ⟨ret_bool Hv.out.symm, bl_drewN _ _⟩
      · rw [hw] at hv
        have hW := Lib.hid hw
        have C0 := Lib.hid c0; clear c0
        have C1 := Lib.hid c1; clear c1
        have K1 := Lib.hid k1; clear k1
        have K2 := Lib.hid k2; clear k2
        have K3 := Lib.hid k3; clear k3
        have K4 := Lib.hid k4; clear k4
        have Hok := Lib.hid hok; clear hok
        have Hok2 := Lib.hid hok2; clear hok2
        have Hv := Lib.hid hv; clear hv
        go_enter Try.func69, Try.ntmps69
        go_wp2_with fail
        refine (C0.out _ P).mono ?_
        rintro e w1 ⟨rfl, n, rfl⟩
        go_wp2_with fail
        refine (C1.out _ (Q.bl (bl_drewN _ _))).mono ?_
        rintro e w1 ⟨rfl, m, rfl⟩
        have P2 := P1.bl (bl_drewN w (n + m))
        have Q2 := Q1.bl (bl_drewN w (n + m))
        go_wp2_with fail
        refine (K1.out _ P2).mono ?_
        rintro e w1 ⟨rfl, rfl⟩
        go_wp2_with fail
        refine (K2.out _ Q2).mono ?_
        rintro e w1 ⟨rfl, rfl⟩
        go_wp2_with fail
        refine (K3.out _ P2).mono ?_
        rintro e w1 ⟨rfl, rfl⟩
        go_wp2_with fail
        refine (K4.out _ Q2).mono ?_
        rintro e w1 ⟨rfl, rfl⟩
        go_wp2
        go_ret
        exact ⟨ret_bool (by rw [Hv.out, Bool.true_and]), bl_drewN _ _⟩
/-- The loop of l01Inside: both lists, and all of the first n pixels are well. -/
def InRel (w0 : World) (f f' : Nat → Bool) (g g' N : Nat) (i : Value) (wr : World) : Prop :=
  ∃ n : Nat, n ≤ N ∧ i = .int .i64 n ∧ Hid (inTo f f' n = true) ∧ wr = w0
set_option maxHeartbeats 2000000 in
theorem l01Inside_any (a b : Nat) (p q : Option Addr) (c d : Nat) (ss ts : List ByteArray) (w : World) (P : PicAt w a p c ss) (Q : PicAt w b q d ts) (hl : wid ss * ss.length = wid ts * ts.length) :
    Calls Try.prog 70 #[.pointer (some ⟨a, 0, none⟩), .pointer (some ⟨b, 0, none⟩)] w fun e w' => e = .returned (.bool (inTo (bits ss) (bits ts) (wid ss * ss.length))) ∧ Below w.heap.size w w' := by
  have d1 := okPic_dims P.ok
  have hm := mul_256 d1.2.2.2 d1.2.1
  go_enter Try.func70, Try.ntmps70
  go_wp2_with fail
  refine (l01List_any a p c ss _ P).mono ?_
  rintro e w1 ⟨g, k, rfl, L, hg, hb⟩
  replace P := P.bl hb
  replace Q := Q.bl hb
  have S := (Since.refl w).bl hb
  clear hb
  go_wp2_with fail
  refine (l01List_any b q d ts _ Q).mono ?_
  rintro e w2 ⟨g', k', rfl, L', hg', hb⟩
  replace P := P.bl hb
  replace Q := Q.bl hb
  replace L := L.bl hb
  replace S := S.bl hb
  clear hb
  rw [← hl] at L'
  rw [← hl]
  obtain ⟨N, eN⟩ : ∃ N, wid ss * ss.length = N := ⟨_, rfl⟩
  obtain ⟨f, ef⟩ : ∃ f, bits ss = f := ⟨_, rfl⟩
  obtain ⟨f', ef'⟩ : ∃ f, bits ts = f := ⟨_, rfl⟩
  rw [eN] at L L' hm
  rw [ef] at L
  rw [ef'] at L'
  rw [eN]
  have hv : inTo (bits ss) (bits ts) (wid ss * ss.length) = inTo f f' N := by rw [eN, ef, ef']
  have Hv := Lib.hid hv; clear hv
  clear P Q d1 hl eN ef ef'
  have S1 := S.below
  go_wp2
  go_loopw [14] (InRel w2 f f' g g' N) (fun i _ => N - (intOf i).toNat)
  case atStart => unfold InRel; exact ⟨0, Nat.zero_le _, rfl, Lib.hid rfl, rfl⟩
  case round =>
    obtain ⟨n, hn, rfl, hi, rfl⟩ := hrel
    by_cases hN : n < N
    · have e1 := L.cell hN
      have e2 := L'.cell hN
      have hsu := inTo_succ f f' n
      rw [hi.out] at hsu
      cases h1 : f n
      · rw [h1] at e1 hsu
        have Hsu := Lib.hid hsu; clear hsu
        have H1 := Lib.hid h1; clear h1
        go_wp2
        go_roundw
        case rel => unfold InRel; exact ⟨n + 1, by omega, by go_num, Lib.hid Hsu.out, rfl⟩
        case measure => simp [intOf]; omega
      · rw [h1] at e1 hsu
        cases h2 : f' n
        · rw [h2] at e2 hsu
          have Hsu := Lib.hid hsu; clear hsu
          have H1 := Lib.hid h1; clear h1
          have H2 := Lib.hid h2; clear h2
          go_wp2
          go_ret
          exact ⟨ret_bool (Hv.out.trans (inTo_le Hsu.out (by omega))).symm, S1⟩
        · rw [h2] at e2 hsu
          have Hsu := Lib.hid hsu; clear hsu
          have H1 := Lib.hid h1; clear h1
          have H2 := Lib.hid h2; clear h2
          go_wp2
          go_roundw
          case rel => unfold InRel; exact ⟨n + 1, by omega, by go_num, Lib.hid Hsu.out, rfl⟩
          case measure => simp [intOf]; omega
    · obtain rfl : n = N := by omega
      go_wp2
      go_ret
      exact ⟨ret_bool (Hv.out.trans hi.out).symm, S1⟩
def insideB (ss ts : List ByteArray) : Bool := likeB ss ts && inTo (bits ss) (bits ts) (wid ss * ss.length)
set_option maxHeartbeats 2000000 in
theorem sIsInside_any (p q : Option Addr) (c d : Nat) (ss ts : List ByteArray) (w : World) (hn : ss.length ≤ 1048576) (hs : ∀ s ∈ ss, s.size ≤ 1048576) (hn2 : ts.length ≤ 1048576) (hs2 : ∀ s ∈ ts, s.size ≤ 1048576)
    (hr : Rd w p ss.length (strAt ss)) (hq : Rd w q ts.length (strAt ts)) :
    Calls Try.prog 28 #[.agg #[.slice p ss.length c], .agg #[.slice q ts.length d]] w fun e w' => e = .returned (.bool (insideB ss ts)) ∧ Below w.heap.size w w' := by
  have P : PicVar ((w.alloc (.cells #[.slice p ss.length c] 28)).alloc (.cells #[.slice q ts.length d] 28)) w.heap.size p c ss := ⟨by simp, (hr.alloc _).alloc _⟩
  have Q : PicVar ((w.alloc (.cells #[.slice p ss.length c] 28)).alloc (.cells #[.slice q ts.length d] 28)) (w.heap.size + 1) q d ts := ⟨by simp, (hq.alloc _).alloc _⟩
  have S := ((Since.refl w).bl (bl_alloc w (.cells #[.slice p ss.length c] 28))).bl (bl_alloc _ (.cells #[.slice q ts.length d] 28))
  have hl := l01Like_any _ _ p q c d ss ts _ hn hs hn2 hs2 P Q
  cases h : likeB ss ts
  · rw [h] at hl
    have hv : insideB ss ts = false := by simp [insideB, h]
    have Hl := Lib.hid hl; clear hl
    have H := Lib.hid h; clear h
    have Hv := Lib.hid hv; clear hv
    go_enter Try.func28, Try.ntmps28
    go_wp2_with fail
    refine Hl.out.mono ?_
    rintro e w1 ⟨rfl, hb⟩
    have S1 := S.bl hb
    go_wp2
    go_ret
    exact ⟨ret_bool Hv.out.symm, S1.below⟩
  · rw [h] at hl
    have hv : insideB ss ts = inTo (bits ss) (bits ts) (wid ss * ss.length) := by simp [insideB, h]
    obtain ⟨h1, h2, h3, h4⟩ := likeB_true h
    have P1 := P.at h1
    have Q1 := Q.at h2
    have c2 := fun w P Q => l01Inside_any w.heap.size (w.heap.size + 1) p q c d ss ts w P Q (by rw [h3, h4])
    have c3 := fun w' P Q => l01Inside_any w.heap.size (w.heap.size + 1) p q c d ss ts w' P Q (by rw [h3, h4])
    have Hl := Lib.hid hl; clear hl
    have H := Lib.hid h; clear h
    have Hv := Lib.hid hv; clear hv
    have C3 := Lib.hid c3; clear c3
    have H1 := Lib.hid h1; clear h1
    have H2 := Lib.hid h2; clear h2
    have H3 := Lib.hid h3; clear h3
    have H4 := Lib.hid h4; clear h4
    clear c2
    go_enter Try.func28, Try.ntmps28
    go_wp2_with fail
    refine Hl.out.mono ?_
    rintro e w1 ⟨rfl, hb⟩
    replace S := S.bl hb
    replace P1 := P1.bl hb
    replace Q1 := Q1.bl hb
    clear hb
    go_wp2_with fail
    refine (C3.out _ P1 Q1).mono ?_
    rintro e w2 ⟨rfl, hb⟩
    replace S := S.bl hb
    go_wp2
    go_ret
    exact ⟨ret_bool Hv.out.symm, S.below⟩
end Go.Proofs.Yteoodnhcghjjeaa
