/- Plain facts on the nearest black pixel and the farthest pixel, and contracts at pictures known by their pixels. -/
import Derived.Test.YtakoklldmdbphaaDrawPic
import Derived.Test.YtakoklldmdbphaaRender
import Derived.Test.YtakoklldmdbphaaFarthestI
import Derived.Test.YtakoklldmdbphaaImplOps
set_option linter.unusedVariables false
set_option linter.unusedSimpArgs false
namespace Go.Proofs.Ytakoklldmdbphaa
open Go.RowKit

/-- A slice of rows that reads as the picture of some pixels. -/
structure Pic (w : World) (p : Option Addr) (W H : Nat) (f : Nat → Bool) : Prop where
  w1 : 1 ≤ W
  w2 : W ≤ 16
  h1 : 1 ≤ H
  h2 : H ≤ 16
  rd : Rd w p H (strAt (render W H f))
theorem Pic.bl {w w' : World} {p : Option Addr} {W H : Nat} {f : Nat → Bool} (h : Pic w p W H f) (hb : Below w.heap.size w w') : Pic w' p W H f := ⟨h.w1, h.w2, h.h1, h.h2, h.rd.bl hb⟩
theorem Pic.of_own {w : World} {B W H c : Nat} {p : Option Addr} {f : Nat → Bool} (h1 : 1 ≤ W) (h2 : W ≤ 16) (h3 : 1 ≤ H) (h4 : H ≤ 16) (h : OwnStrs B w (.slice p (render W H f).length c) (render W H f)) : Pic w p W H f :=
  ⟨h1, h2, h3, h4, by have := h.rd; rwa [render_len] at this⟩
theorem render_mem {W H : Nat} {f : Nat → Bool} {s : ByteArray} (h : s ∈ render W H f) : s.size = W := by
  obtain ⟨y, _, rfl⟩ := List.mem_map.1 h
  exact rowStr_size _ _
theorem Pic.out {w : World} {p : Option Addr} {W H : Nat} {f : Nat → Bool} (h : Pic w p W H f) : (render W H f).length ≤ 1048576 ∧ (∀ s ∈ render W H f, s.size ≤ 1048576) ∧ Rd w p (render W H f).length (strAt (render W H f)) ∧ okPic (render W H f) = true ∧ wid (render W H f) = W := by
  refine ⟨by rw [render_len]; have := h.h2; omega, fun s hs => by rw [render_mem hs]; have := h.w2; omega, by rw [render_len]; exact h.rd, okPic_render f h.w1 h.w2 h.h1 h.h2, wid_render h.h1⟩
theorem spotsTo_eq {W : Nat} {f g : Nat → Bool} {n : Nat} (h : ∀ i, i < n → f i = g i) : spotsTo W f n = spotsTo W g n := by
  induction n with
  | zero => rfl
  | succ n ih => rw [spotsTo_succ, spotsTo_succ, ih (fun i hi => h i (by omega)), h n (by omega)]
theorem spotsL_render {W H : Nat} {f : Nat → Bool} (h1 : 1 ≤ W) (h2 : W ≤ 16) (h3 : 1 ≤ H) (h4 : H ≤ 16) : spotsL (render W H f) = spotsTo W f (W * H) := by
  rw [spotsL, if_pos (okPic_render f h1 h2 h3 h4), wid_render h3, render_len]
  exact spotsTo_eq (fun i hi => bits_render h3 hi)
/-- The spot of a pixel. -/
def spAt (W i : Nat) : Int × Int := (((i % W : Nat) : Int), ((i / W : Nat) : Int))
theorem spAt_at {W x y : Nat} (hx : x < W) : spAt W (y * W + x) = ((x : Int), (y : Int)) := by rw [spAt, (at_mod hx).1, (at_mod hx).2]
theorem getD_appL {l m : List (Int × Int)} {k : Nat} (h : k < l.length) : (l ++ m).getD k (0, 0) = l.getD k (0, 0) := by
  simp [List.getD, List.getElem?_append_left h]
theorem spotsTo_mono {W : Nat} {f : Nat → Bool} {i j : Nat} (h : i ≤ j) : (spotsTo W f i).length ≤ (spotsTo W f j).length := by
  induction j with
  | zero => obtain rfl : i = 0 := by omega
            exact Nat.le_refl _
  | succ j ih =>
    by_cases e : i = j + 1
    · subst e; exact Nat.le_refl _
    · have := ih (by omega)
      rw [spotsTo_succ, List.length_append]
      omega
theorem spotsTo_of {W : Nat} {f : Nat → Bool} {n k : Nat} (h : k < (spotsTo W f n).length) : ∃ i, i < n ∧ f i = true ∧ k = (spotsTo W f i).length ∧ (spotsTo W f n).getD k (0, 0) = spAt W i := by
  induction n with
  | zero => simp [spotsTo] at h
  | succ n ih =>
    by_cases hk : k < (spotsTo W f n).length
    · obtain ⟨i, h1, h2, h3, h4⟩ := ih hk
      refine ⟨i, by omega, h2, h3, ?_⟩
      rw [spotsTo_succ, getD_appL hk, h4]
    · rw [spotsTo_succ, List.length_append] at h
      cases hf : f n
      · rw [hf] at h
        simp at h
        omega
      · rw [hf] at h
        simp at h
        obtain rfl : k = (spotsTo W f n).length := by omega
        refine ⟨n, by omega, hf, rfl, ?_⟩
        rw [spotsTo_succ, hf]
        simp [List.getD, spAt]
theorem spotsTo_at {W : Nat} {f : Nat → Bool} {n i : Nat} (hi : i < n) (hf : f i = true) : (spotsTo W f i).length < (spotsTo W f n).length ∧ (spotsTo W f n).getD (spotsTo W f i).length (0, 0) = spAt W i := by
  induction n with
  | zero => omega
  | succ n ih =>
    by_cases e : i = n
    · subst e
      rw [spotsTo_succ, hf]
      simp [List.getD, spAt]
    · have := ih (by omega)
      refine ⟨by rw [spotsTo_succ, List.length_append]; omega, ?_⟩
      rw [spotsTo_succ, getD_appL this.1, this.2]
theorem leastN_le' (g : Int × Int → Int) (l : List (Int × Int)) (n : Nat) : leastN g l n ≤ n := by
  induction n with
  | zero => exact Nat.le_refl _
  | succ n ih =>
    rw [leastN]
    split <;> omega
theorem leastN_first (g : Int × Int → Int) (l : List (Int × Int)) (n : Nat) : ∀ i, i < n → ¬ g (l.getD i (0, 0)) < g (l.getD (leastN g l n) (0, 0)) ∧ (g (l.getD i (0, 0)) = g (l.getD (leastN g l n) (0, 0)) → leastN g l n ≤ i) := by
  induction n with
  | zero => intro i hi; omega
  | succ n ih =>
    intro i hi
    rw [leastN]
    by_cases h : g (l.getD n (0, 0)) < g (l.getD (leastN g l n) (0, 0))
    · rw [if_pos h]
      by_cases e : i = n
      · subst e
        exact ⟨Int.lt_irrefl _, fun _ => Nat.le_refl _⟩
      · have := ih i (by omega)
        exact ⟨by omega, by omega⟩
    · rw [if_neg h]
      by_cases e : i = n
      · subst e
        exact ⟨h, fun _ => leastN_le' g l i⟩
      · exact ih i (by omega)
/-- The nearest black pixel is the first one of the least distance. -/
theorem near_law {W n : Nat} {f : Nat → Bool} (g : Int × Int → Int) (h0 : 0 < (spotsTo W f n).length) :
    ∃ i, i < n ∧ f i = true ∧ bestS g (spotsTo W f n) = spAt W i ∧ ∀ j, j < n → f j = true → g (spAt W i) ≤ g (spAt W j) ∧ (g (spAt W j) = g (spAt W i) → i ≤ j) := by
  obtain ⟨i, hi, hf, hk, he⟩ := spotsTo_of (leastN_lt g (spotsTo W f n) (spotsTo W f n).length h0 (Nat.le_refl _))
  refine ⟨i, hi, hf, he, fun j hj hfj => ?_⟩
  obtain ⟨k1, k2⟩ := spotsTo_at (W := W) hj hfj
  have h := leastN_first g (spotsTo W f n) (spotsTo W f n).length _ k1
  rw [k2, he, hk] at h
  refine ⟨Int.not_lt.1 h.1, fun e => ?_⟩
  have h2 := h.2 e
  rcases Nat.lt_or_ge j i with hlt | hge
  · have := (spotsTo_at (W := W) hlt hfj).1
    omega
  · exact hge
theorem farN_law (W : Nat) (d : Nat → Int) (hd : ∀ i, 0 ≤ d i) (n : Nat) : (∀ i, i < n → d i ≤ (farN W d n).2) ∧ (0 < n → ∃ i, i < n ∧ (farN W d n).1 = spAt W i ∧ (farN W d n).2 = d i) := by
  induction n with
  | zero => exact ⟨fun i hi => by omega, fun h => by omega⟩
  | succ n ih =>
    rw [farN]
    by_cases h : (farN W d n).2 < d n
    · rw [if_pos h]
      refine ⟨fun i hi => ?_, fun _ => ⟨n, by omega, rfl, rfl⟩⟩
      by_cases e : i = n
      · subst e; exact Int.le_refl _
      · have := ih.1 i (by omega)
        show d i ≤ d n
        omega
    · rw [if_neg h]
      refine ⟨fun i hi => ?_, fun _ => ?_⟩
      · by_cases e : i = n
        · subst e; omega
        · exact ih.1 i (by omega)
      · have hn : 0 < n := by
          rcases Nat.eq_zero_or_pos n with e | e
          · subst e
            have := hd 0
            simp only [farN] at h
            omega
          · exact e
        obtain ⟨i, h1, h2, h3⟩ := ih.2 hn
        exact ⟨i, by omega, h2, h3⟩
theorem farZ_zero {k x y u v : Int} (h : farZ k x y u v = 0) : u = x ∧ v = y := by
  unfold farZ at h
  have a1 : 0 ≤ absZ (x - u) := by unfold absZ; omega
  have a2 : 0 ≤ absZ (y - v) := by unfold absZ; omega
  have hz : absZ (x - u) = 0 ∧ absZ (y - v) = 0 := by
    split at h
    · omega
    · split at h
      · omega
      · have b1 := Int.mul_nonneg a1 a1
        have b2 := Int.mul_nonneg a2 a2
        have c1 : absZ (x - u) * absZ (x - u) = 0 := by omega
        have c2 : absZ (y - v) * absZ (y - v) = 0 := by omega
        rcases Int.mul_eq_zero.1 c1 with e | e <;> rcases Int.mul_eq_zero.1 c2 with e' | e' <;> exact ⟨e, e'⟩
  obtain ⟨h1, h2⟩ := hz
  unfold absZ at h1 h2
  omega
theorem farZ_self (k x y : Int) : farZ k x y x y = 0 := by
  have h : ∀ z : Int, absZ (z - z) = 0 := fun z => by unfold absZ; omega
  unfold farZ
  rw [h, h]
  split
  · rfl
  · split <;> rfl
/-- What stands at a pixel of a picture with black pixels: the nearest black pixel, and its distance. -/
theorem near_at {W H x y : Nat} {f : Nat → Bool} (k : Int) (h0 : 0 < (spotsTo W f (W * H)).length) (hx : x < W) (hy : y < H) :
    ∃ u v : Nat, ∃ D : Int, u < W ∧ v < H ∧ f (v * W + u) = true ∧ bestS (farG k x y) (spotsTo W f (W * H)) = ((u : Int), (v : Int)) ∧ bestD (farG k x y) (spotsTo W f (W * H)) = D ∧ farZ k x y u v = D ∧ 0 ≤ D ∧ f (y * W + x) = (D == 0) ∧
      ∀ i j : Nat, i < W → j < H → f (j * W + i) = true → D ≤ farZ k x y i j ∧ (farZ k x y i j = D → ¬ (j < v ∨ (j = v ∧ i < u))) := by
  have hW : 0 < W := by omega
  obtain ⟨n, hn, hf, hb, hall⟩ := near_law (farG k x y) h0
  have hv : n / W < H := by rw [Nat.div_lt_iff_lt_mul hW, Nat.mul_comm]; exact hn
  have hu : n % W < W := Nat.mod_lt _ hW
  have hnn : n / W * W + n % W = n := by rw [Nat.mul_comm]; exact Nat.div_add_mod n W
  have hD0 := farG_nonneg k x y (spAt W n)
  have hall2 : ∀ i j : Nat, i < W → j < H → f (j * W + i) = true → farG k x y (spAt W n) ≤ farZ k x y i j ∧ (farZ k x y i j = farG k x y (spAt W n) → n ≤ j * W + i) := fun i j hi hj hf2 => by
    have := hall (j * W + i) (at_lt hi hj) hf2
    rw [spAt_at hi] at this
    exact this
  refine ⟨n % W, n / W, farG k x y (spAt W n), hu, hv, by rw [hnn]; exact hf, hb, ?_, rfl, hD0, ?_, ?_⟩
  · rw [bestD, if_neg (by omega), hb]
  · rw [Bool.eq_iff_iff, beq_iff_eq]
    constructor
    · intro h1
      have := (hall2 x y hx hy h1).1
      rw [farZ_self] at this
      omega
    · intro h1
      obtain ⟨e1, e2⟩ := farZ_zero h1
      have e1 : ((n % W : Nat) : Int) = x := e1
      have e2 : ((n / W : Nat) : Int) = y := e2
      rw [show x = n % W by omega, show y = n / W by omega, hnn]
      exact hf
  · intro i j hi hj hf2
    obtain ⟨h1, h2⟩ := hall2 i j hi hj hf2
    refine ⟨h1, fun e hlt => ?_⟩
    have h3 := h2 e
    rcases hlt with h4 | ⟨h4, h5⟩
    · have h6 : (j + 1) * W ≤ n / W * W := Nat.mul_le_mul_right _ h4
      rw [Nat.add_mul, Nat.one_mul] at h6
      omega
    · subst h4
      omega
end Go.Proofs.Ytakoklldmdbphaa
