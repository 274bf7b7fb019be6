/- Contracts of the reference's l01Like, l01Inside and IsInside. -/
import Derived.Test.YtakoklldmdbphaaSpecOps
set_option linter.unusedVariables false
namespace Go.Proofs.Ytakoklldmdbphaa
open Go.RowKit

/-- A picture behind a pointer: its rows lie in the variable of block a. -/
structure PicVar (w : World) (a : Nat) (p : Option Addr) (c : Nat) (ss : List ByteArray) : Prop where
  box : w.cell? ⟨a, 0, none⟩ = some (.slice p ss.length c)
  rd : Rd w p ss.length (strAt ss)
theorem PicVar.lt {w : World} {a : Nat} {p : Option Addr} {c : Nat} {ss : List ByteArray} (h : PicVar w a p c ss) : a < w.heap.size := World.block_lt_of_cell? _ _ h.box
theorem PicVar.bl {w w' : World} {a : Nat} {p : Option Addr} {c : Nat} {ss : List ByteArray} (h : PicVar w a p c ss) (hb : Below w.heap.size w w') : PicVar w' a p c ss :=
  ⟨(hb.cell (p := ⟨a, 0, none⟩) h.lt).trans h.box, h.rd.bl hb⟩
theorem PicVar.at {w : World} {a : Nat} {p : Option Addr} {c : Nat} {ss : List ByteArray} (h : PicVar w a p c ss) (ho : okPic ss = true) : PicAt w a p c ss := ⟨ho, h.box, h.rd⟩

/-- Two valid pictures of one size. -/
def likeB (ss ts : List ByteArray) : Bool := okPic ss && (okPic ts && (((wid ss : Int) == (wid ts : Int)) && ((ss.length : Int) == (ts.length : Int))))
theorem likeB_true {ss ts : List ByteArray} (h : likeB ss ts = true) : okPic ss = true ∧ okPic ts = true ∧ wid ss = wid ts ∧ ss.length = ts.length := by
  simp only [likeB, Bool.and_eq_true, beq_iff_eq] at h
  exact ⟨h.1, h.2.1, by omega, by omega⟩
/-- Of the first n pixels, are the black ones black in the other picture too? -/
def inTo (f g : Nat → Bool) (n : Nat) : Bool := (List.range n).all fun i => !(f i && !g i)
theorem inTo_succ (f g : Nat → Bool) (n : Nat) : inTo f g (n + 1) = (inTo f g n && !(f n && !g n)) := by simp [inTo, List.range_succ, List.all_append]
theorem inTo_le {f g : Nat → Bool} {n m : Nat} (h : inTo f g n = false) (hm : n ≤ m) : inTo f g m = false := by
  simp only [inTo, List.all_eq_false, List.mem_range] at h ⊢
  obtain ⟨x, hx, h⟩ := h
  exact ⟨x, by omega, h⟩

set_option maxHeartbeats 2000000 in
theorem l01Like_any (a b : Nat) (p q : Option Addr) (c d : Nat) (ss ts : List ByteArray) (w : World) (hn : ss.length ≤ 1048576) (hs : ∀ s ∈ ss, s.size ≤ 1048576) (hn2 : ts.length ≤ 1048576) (hs2 : ∀ s ∈ ts, s.size ≤ 1048576)
    (P : PicVar w a p c ss) (Q : PicVar w b q d ts) :
    Calls Try.prog 110 #[.pointer (some ⟨a, 0, none⟩), .pointer (some ⟨b, 0, none⟩)] w fun e w' => e = .returned (.bool (likeB ss ts)) ∧ Below w.heap.size w w' := by
  have c0 := fun w (h : PicVar w a p c ss) => l01Is_any a p c ss w hn hs h.box h.rd
  have c1 := fun w (h : PicVar w b q d ts) => l01Is_any b q d ts w hn2 hs2 h.box h.rd
  cases hok : okPic ss
  · rw [hok] at c0
    have hv : likeB ss ts = false := by simp [likeB, hok]
    have C0 := Lib.hid c0; clear c0
    have C1 := Lib.hid c1; clear c1
    have Hok := Lib.hid hok; clear hok
    have Hv := Lib.hid hv; clear hv
    go_enter Try.func110, Try.ntmps110
    go_wp2_with fail
    refine (C0.out _ P).mono ?_
    rintro e w1 ⟨rfl, n, rfl⟩
    go_wp2
    go_ret
    exact ⟨ret_bool Hv.out.symm, bl_drewN _ _⟩
  · rw [hok] at c0
    have P1 := P.at hok
    cases hok2 : okPic ts
    · rw [hok2] at c1
      have hv : likeB ss ts = false := by simp [likeB, hok2]
      have C0 := Lib.hid c0; clear c0
      have C1 := Lib.hid c1; clear c1
      have Hok := Lib.hid hok; clear hok
      have Hok2 := Lib.hid hok2; clear hok2
      have Hv := Lib.hid hv; clear hv
      go_enter Try.func110, Try.ntmps110
      go_wp2_with fail
      refine (C0.out _ P).mono ?_
      rintro e w1 ⟨rfl, n, rfl⟩
      go_wp2_with fail
      refine (C1.out _ (Q.bl (bl_drewN _ _))).mono ?_
      rintro e w1 ⟨rfl, m, rfl⟩
      go_wp2
      go_ret
      exact ⟨ret_bool Hv.out.symm, bl_drewN _ _⟩
    · rw [hok2] at c1
      have Q1 := Q.at hok2
      have d1 := okPic_dims hok
      have d2 := okPic_dims hok2
      have k1 := fun w h => l01Width_any a p c ss w h
      have k2 := fun w h => l01Width_any b q d ts w h
      have k3 := fun w h => l01Height_any a p c ss w h
      have k4 := fun w h => l01Height_any b q d ts w h
      have hv : likeB ss ts = (((wid ss : Int) == (wid ts : Int)) && ((ss.length : Int) == (ts.length : Int))) := by simp [likeB, hok, hok2]
      generalize likeB ss ts = r at *
      obtain ⟨d11, d12, d13, d14⟩ := d1
      obtain ⟨d21, d22, d23, d24⟩ := d2
      cases hw : ((wid ss : Int) == (wid ts : Int))
      · rw [hw] at hv
        have hW := Lib.hid hw
        have C0 := Lib.hid c0; clear c0
        have C1 := Lib.hid c1; clear c1
        have K1 := Lib.hid k1; clear k1
        have K2 := Lib.hid k2; clear k2
        have K3 := Lib.hid k3; clear k3
        have K4 := Lib.hid k4; clear k4
        have Hok := Lib.hid hok; clear hok
        have Hok2 := Lib.hid hok2; clear hok2
        have Hv := Lib.hid hv; clear hv
        go_enter Try.func110, Try.ntmps110
        go_wp2_with fail
        refine (C0.out _ P).mono ?_
        rintro e w1 ⟨rfl, n, rfl⟩
        go_wp2_with fail
        refine (C1.out _ (Q.bl (bl_drewN _ _))).mono ?_
        rintro e w1 ⟨rfl, m, rfl⟩
        have P2 := P1.bl (bl_drewN w (n + m))
        have Q2 := Q1.bl (bl_drewN w (n + m))
        go_wp2_with fail
        refine (K1.out _ P2).mono ?_
        rintro e w1 ⟨rfl, rfl⟩
        go_wp2_with fail
        refine (K2.out _ Q2).mono ?_
        rintro e w1 ⟨rfl, rfl⟩
        go_wp2
        go_ret
        exact ⟨ret_bool Hv.out.symm, bl_drewN _ _⟩
      · rw [hw] at hv
        have hW := Lib.hid hw
        have C0 := Lib.hid c0; clear c0
        have C1 := Lib.hid c1; clear c1
        have K1 := Lib.hid k1; clear k1
        have K2 := Lib.hid k2; clear k2
        have K3 := Lib.hid k3; clear k3
        have K4 := Lib.hid k4; clear k4
        have Hok := Lib.hid hok; clear hok
        have Hok2 := Lib.hid hok2; clear hok2
        have Hv := Lib.hid hv; clear hv
        go_enter Try.func110, Try.ntmps110
        go_wp2_with fail
        refine (C0.out _ P).mono ?_
        rintro e w1 ⟨rfl, n, rfl⟩
        go_wp2_with fail
        refine (C1.out _ (Q.bl (bl_drewN _ _))).mono ?_
        rintro e w1 ⟨rfl, m, rfl⟩
        have P2 := P1.bl (bl_drewN w (n + m))
        have Q2 := Q1.bl (bl_drewN w (n + m))
        go_wp2_with fail
        refine (K1.out _ P2).mono ?_
        rintro e w1 ⟨rfl, rfl⟩
        go_wp2_with fail
        refine (K2.out _ Q2).mono ?_
        rintro e w1 ⟨rfl, rfl⟩
        go_wp2_with fail
        refine (K3.out _ P2).mono ?_
        rintro e w1 ⟨rfl, rfl⟩
        go_wp2_with fail
        refine (K4.out _ Q2).mono ?_
        rintro e w1 ⟨rfl, rfl⟩
        go_wp2
        go_ret
        exact ⟨ret_bool (by rw [Hv.out, Bool.true_and]), bl_drewN _ _⟩
def insideB (ss ts : List ByteArray) : Bool := likeB ss ts && inTo (bits ss) (bits ts) (wid ss * ss.length)
end Go.Proofs.Ytakoklldmdbphaa
