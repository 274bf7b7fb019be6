/- Plain law of BestShift. -/
import Derived.Test.YtnenogpagkepfaaTreeTo
import Derived.Test.YtnenogpagkepfaaTreeS7
set_option linter.unusedVariables false
set_option linter.unusedSimpArgs false
namespace Go.Proofs.Ytnenogpagkepfaa
open Go.RowKit

def isLf (c : UInt8) : Bool := c == 35 || c == 46
def cntL (l : List UInt8) : Nat := (l.filter isLf).length
theorem cntL_app (l m : List UInt8) : cntL (l ++ m) = cntL l + cntL m := by simp [cntL]
theorem cntL_leaf (b : Bool) : cntL [colB b] = 1 := by cases b <;> rfl
/-- As many signs of leaves as leaves. -/
theorem cnt_print : ∀ (k : Nat) (T : QT) (x y : Nat) (p : ByteArray), T.deep k = true → cntL T.print = (T.leaves k x y p).length := by
  intro k
  induction k with
  | zero =>
    intro T x y p h
    cases T with
    | leaf b => simp [QT.print, QT.leaves, cntL_leaf]
    | node a b c d => cases h
  | succ k ih =>
    intro T x y p h
    cases T with
    | leaf b => simp [QT.print, QT.leaves, cntL_leaf]
    | node a b c d =>
      simp only [QT.deep, Bool.and_eq_true] at h
      obtain ⟨⟨⟨ha, hb⟩, hc⟩, hd⟩ := h
      have e : QT.print (.node a b c d) = [40] ++ (a.print ++ (b.print ++ (c.print ++ (d.print ++ [41])))) := rfl
      have e1 : cntL [40] = 0 := rfl
      have e2 : cntL [41] = 0 := rfl
      rw [e]
      simp only [cntL_app, e1, e2, QT.leaves, List.length_append, Nat.add_sub_cancel]
      rw [ih a x y (p ++ addrB 48) ha, ih b (x + 2 ^ k) y (p ++ addrB 49) hb, ih c x (y + 2 ^ k) (p ++ addrB 50) hc, ih d (x + 2 ^ k) (y + 2 ^ k) (p ++ addrB 51) hd]
      omega
/-- How many of the first n bytes are signs of leaves. -/
def cntTo (s : ByteArray) (n : Nat) : Nat := cntL (s.data.toList.take n)
theorem cntTo_zero (s : ByteArray) : cntTo s 0 = 0 := rfl
theorem cntTo_all (l : List UInt8) : cntTo (bytesOf l) (bytesOf l).size = cntL l := by
  rw [cntTo, bytesOf_size]
  show cntL (List.take l.length l) = cntL l
  rw [List.take_length]
theorem cntTo_succ {s : ByteArray} {n : Nat} (h : n < s.size) : cntTo s (n + 1) = cntTo s n + (if isLf s[n] then 1 else 0) := by
  have hl : n < s.data.toList.length := by rw [Array.length_toList]; exact h
  rw [cntTo, List.take_succ_eq_append_getElem hl, cntL_app]
  have e : s.data.toList[n] = s[n] := by simp; rfl
  rw [e]
  have e2 : cntL [s[n]] = if isLf s[n] then 1 else 0 := by cases h2 : isLf s[n] <;> simp [cntL, h2]
  rw [e2]
  rfl
theorem cntTo_le (s : ByteArray) (n : Nat) : cntTo s n ≤ n := by
  have h1 := List.length_filter_le isLf (s.data.toList.take n)
  rw [List.length_take] at h1
  rw [cntTo, cntL]
  omega
/-- The pixels of a picture laid into a square. -/
def bsF (ss : List ByteArray) (N dx dy i : Nat) : Bool := px (wid ss) ss.length (bits ss) (((i % N : Nat) : Int) - (dx : Int)) (((i / N : Nat) : Int) - (dy : Int))
def bsC (ss : List ByteArray) (k N dx dy : Nat) : Nat := ((qt k (pf N N (bsF ss N dx dy)) 0 0).leaves k 0 0 ByteArray.empty).length
/-- The best place so far. -/
def bsStep (B : Int × Int × Int) (dx dy n : Nat) : Int × Int × Int := if B.2.2 < 0 ∨ (n : Int) < B.2.2 then ((dx : Int), (dy : Int), (n : Int)) else B
def bsN (C : Nat → Nat → Nat) (WX : Nat) : Nat → Int × Int × Int
  | 0 => (0, 0, -1)
  | m + 1 => bsStep (bsN C WX m) (m % WX) (m / WX) (C (m % WX) (m / WX))
theorem bsN_at {C : Nat → Nat → Nat} {WX x y : Nat} (h : x < WX) : bsN C WX (y * WX + (x + 1)) = bsStep (bsN C WX (y * WX + x)) x y (C x y) := by
  rw [← Nat.add_assoc, bsN, (at_mod h).1, (at_mod h).2]
theorem bsStep_yes {B : Int × Int × Int} {dx dy n : Nat} (h : B.2.2 < 0 ∨ (n : Int) < B.2.2) : bsStep B dx dy n = ((dx : Int), (dy : Int), (n : Int)) := if_pos h
theorem bsStep_no {B : Int × Int × Int} {dx dy n : Nat} (h : ¬ (B.2.2 < 0 ∨ (n : Int) < B.2.2)) : bsStep B dx dy n = B := if_neg h
theorem bsN_bd (C : Nat → Nat → Nat) (hC : ∀ x y, C x y ≤ 1000) (WX : Nat) : ∀ m, -1 ≤ (bsN C WX m).2.2 ∧ (bsN C WX m).2.2 ≤ 1000 := by
  intro m
  induction m with
  | zero => show (-1 : Int) ≤ -1 ∧ (-1 : Int) ≤ 1000; omega
  | succ m ih =>
    rw [bsN]
    by_cases h : (bsN C WX m).2.2 < 0 ∨ ((C (m % WX) (m / WX) : Nat) : Int) < (bsN C WX m).2.2
    · rw [bsStep_yes h]
      have := hC (m % WX) (m / WX)
      simp only
      omega
    · rw [bsStep_no h]
      exact ih
def bsOk (ss : List ByteArray) (s : Int) : Bool := okPic ss && sideB s && decide ((wid ss : Int) ≤ s) && decide ((ss.length : Int) ≤ s)
def bsR (ss : List ByteArray) (s : Int) : Int × Int × Int := if bsOk ss s then bsN (bsC ss (lg s) (2 ^ lg s)) (2 ^ lg s - wid ss + 1) ((2 ^ lg s - ss.length + 1) * (2 ^ lg s - wid ss + 1)) else (0, 0, 0)
theorem bs_no {ss : List ByteArray} {s : Int} (h : bsOk ss s = false) : bsR ss s = (0, 0, 0) := by rw [bsR, h]; rfl
theorem bs_yes {ss : List ByteArray} {s : Int} (h : bsOk ss s = true) : bsR ss s = bsN (bsC ss (lg s) (2 ^ lg s)) (2 ^ lg s - wid ss + 1) ((2 ^ lg s - ss.length + 1) * (2 ^ lg s - wid ss + 1)) := by rw [bsR, h]; rfl
theorem bsC_le {k : Nat} (hk : k ≤ 4) (ss : List ByteArray) (N dx dy : Nat) : bsC ss k N dx dy ≤ 1000 := by
  have := leaves_256 (k := k) (f := pf N N (bsF ss N dx dy)) (x := 0) (y := 0) hk 0 0 ByteArray.empty
  unfold bsC
  omega
/-- The square while it is filled: j rows and c pixels of the next one. -/
def flF (W : Nat) (f : Nat → Bool) (N dx dy j c t : Nat) : Bool := decide (dy ≤ t / N ∧ dx ≤ t % N ∧ t % N < dx + W ∧ (t / N < dy + j ∨ (t / N = dy + j ∧ t % N < dx + c))) && f ((t / N - dy) * W + (t % N - dx))
theorem fl_start (W : Nat) (f : Nat → Bool) (N dx dy t : Nat) : flF W f N dx dy 0 0 t = false := by
  rw [flF, decide_eq_false (by omega), Bool.false_and]
theorem fl_row (W : Nat) (f : Nat → Bool) (N dx dy j t : Nat) : flF W f N dx dy j W t = flF W f N dx dy (j + 1) 0 t := by
  unfold flF
  congr 1
  rw [decide_eq_decide]
  omega
theorem fl_set {W : Nat} {f : Nat → Bool} {N dx dy j c t : Nat} (hc : c < W) (hx : dx + c < N) : (if t = (dy + j) * N + (dx + c) then f (j * W + c) else flF W f N dx dy j c t) = flF W f N dx dy j (c + 1) t := by
  by_cases h : t = (dy + j) * N + (dx + c)
  · obtain ⟨e1, e2⟩ := at_mod (y := dy + j) hx
    rw [if_pos h, h, flF, e1, e2, decide_eq_true (by omega), Bool.true_and]
    rw [show dy + j - dy = j by omega, show dx + c - dx = c by omega]
  · rw [if_neg h]
    unfold flF
    congr 1
    rw [decide_eq_decide]
    have hd := Nat.div_add_mod t N
    have hne : ¬ (t / N = dy + j ∧ t % N = dx + c) := by
      rintro ⟨e1, e2⟩
      rw [e1, e2, Nat.mul_comm] at hd
      exact h hd.symm
    omega
theorem fl_end {ss : List ByteArray} {N dx dy t : Nat} : flF (wid ss) (bits ss) N dx dy ss.length 0 t = bsF ss N dx dy t := by
  unfold flF bsF
  generalize t / N = v
  generalize t % N = u
  by_cases h : dy ≤ v ∧ dx ≤ u ∧ u < dx + wid ss ∧ v < dy + ss.length
  · have e1 : (u : Int) - (dx : Int) = ((u - dx : Nat) : Int) := by omega
    have e2 : (v : Int) - (dy : Int) = ((v - dy : Nat) : Int) := by omega
    rw [e1, e2, px_at (by omega) (by omega), decide_eq_true (by omega), Bool.true_and]
  · have : hasB (wid ss) ss.length ((u : Int) - (dx : Int)) ((v : Int) - (dy : Int)) = false := by
      simp only [hasB, inB, Bool.and_eq_false_iff, decide_eq_false_iff_not]
      omega
    rw [px, this, decide_eq_false (by omega), Bool.false_and, Bool.false_and]
end Go.Proofs.Ytnenogpagkepfaa
