/- Contracts of DistancesOf, FarthestOf, NearestOf, CountBlack and ValidPicture at pictures known by their pixels. -/
import Derived.Test.YtakoklldmdbphaaR8Pic
set_option linter.unusedVariables false
set_option linter.unusedSimpArgs false
namespace Go.Proofs.Ytakoklldmdbphaa
open Go.RowKit

/-- FarSpots at spots that lie near. -/
theorem far_near (k : Nat) (ax ay bx b : Int) (w : World) (hk : k < 3) (h1 : 0 ≤ ax ∧ ax ≤ 15) (h2 : 0 ≤ ay ∧ ay ≤ 15) (h3 : 0 ≤ bx ∧ bx ≤ 15) (h4 : 0 ≤ b ∧ b ≤ 15) :
    Calls Try.prog 37 #[.int .i64 (k : Int), .agg #[.int .i64 ax, .int .i64 ay], .agg #[.int .i64 bx, .int .i64 b]] w fun e w' => e = .returned (.tuple #[.int .i64 (farZ k ax ay bx b), .bool true]) ∧ Below w.heap.size w w' := by
  have hB : farSpotsB k ax ay bx b = true := by
    simp only [farSpotsB, nearB, inB, Bool.and_eq_true, decide_eq_true_eq]
    omega
  have h := farSpots_any k ax ay bx b w
  rw [farSpotsZ, if_pos hB, hB] at h
  exact h
theorem some_render {W H k : Nat} {f : Nat → Bool} (h1 : 1 ≤ W) (h2 : W ≤ 16) (h3 : 1 ≤ H) (h4 : H ≤ 16) (hk : k < 3) : someB (render W H f) k = decide (0 < (spotsTo W f (W * H)).length) := by
  have hi : inB (k : Int) 0 2 = true := inB_mk (by omega) (by omega)
  rw [someB, askB, okPic_render f h1 h2 h3 h4, hi, spotsL_render h1 h2 h3 h4, Bool.eq_iff_iff]
  simp
/-- The distance of the pixel i. -/
def dAt (W k : Nat) (L : List (Int × Int)) (i : Nat) : Int := bestD (farG k ((i % W : Nat) : Int) ((i / W : Nat) : Int)) L
theorem distD_render {W H k i : Nat} {f : Nat → Bool} (h1 : 1 ≤ W) (h2 : W ≤ 16) (h3 : 1 ≤ H) (h4 : H ≤ 16) : distD (render W H f) k i = dAt W k (spotsTo W f (W * H)) i := by
  rw [distD, wid_render h3, spotsL_render h1 h2 h3 h4]; rfl
theorem dist_pic (p : Option Addr) (W H c k : Nat) (f : Nat → Bool) (w : World) (P : Pic w p W H f) (hk : k < 3) (h0 : 0 < (spotsTo W f (W * H)).length) :
    Calls Try.prog 49 #[.agg #[.slice p H c], .int .i64 (k : Int)] w fun e w' => ∃ v, e = .returned (.tuple #[v, .bool true]) ∧ OwnSS w.heap.size w' v (gridL W H (dAt W k (spotsTo W f (W * H)))) ∧ Below w.heap.size w w' := by
  obtain ⟨a1, a2, a3, a4, a5⟩ := P.out
  have h := distancesOf_any p c _ k w a1 a2 a3
  have hd := some_render (k := k) (f := f) P.w1 P.w2 P.h1 P.h2 hk
  rw [decide_eq_true h0] at hd
  have hg : gridL W H (distD (render W H f) k) = gridL W H (dAt W k (spotsTo W f (W * H))) := gridL_congr (fun i hi => distD_render P.w1 P.w2 P.h1 P.h2)
  rw [distL, hd, if_pos rfl, a5, render_len, hg] at h
  exact h
theorem dist_none (p : Option Addr) (W H c k : Nat) (f : Nat → Bool) (w : World) (P : Pic w p W H f) (hk : k < 3) (h0 : (spotsTo W f (W * H)).length = 0) :
    Calls Try.prog 49 #[.agg #[.slice p H c], .int .i64 (k : Int)] w fun e w' => ∃ v, e = .returned (.tuple #[v, .bool false]) ∧ Below w.heap.size w w' := by
  obtain ⟨a1, a2, a3, a4, a5⟩ := P.out
  have h := distancesOf_any p c _ k w a1 a2 a3
  have hd := some_render (k := k) (f := f) P.w1 P.w2 P.h1 P.h2 hk
  rw [h0] at hd
  rw [hd, render_len] at h
  refine h.mono ?_
  rintro e w' ⟨v, rfl, -, hb⟩
  exact ⟨v, rfl, hb⟩
theorem farthest_pic (p : Option Addr) (W H c k : Nat) (f : Nat → Bool) (w : World) (P : Pic w p W H f) (hk : k < 3) (h0 : 0 < (spotsTo W f (W * H)).length) :
    Calls Try.prog 47 #[.agg #[.slice p H c], .int .i64 (k : Int)] w fun e w' => ∃ (u v : Nat) (M : Int), u < W ∧ v < H ∧ e = .returned (.tuple #[.agg #[.int .i64 (u : Int), .int .i64 (v : Int)], .int .i64 M, .bool true]) ∧ dAt W k (spotsTo W f (W * H)) (v * W + u) = M ∧ (∀ i, i < W * H → dAt W k (spotsTo W f (W * H)) i ≤ M) ∧ Below w.heap.size w w' := by
  obtain ⟨a1, a2, a3, a4, a5⟩ := P.out
  have h := farthestOf_any p c _ k w a1 a2 a3
  have hd := some_render (k := k) (f := f) P.w1 P.w2 P.h1 P.h2 hk
  rw [decide_eq_true h0] at hd
  have hg : distD (render W H f) k = dAt W k (spotsTo W f (W * H)) := funext (fun i => distD_render P.w1 P.w2 P.h1 P.h2)
  rw [farR, hd, if_pos rfl, a5, render_len, hg] at h
  have hW := P.w1
  have hH := P.h1
  have hpos : 0 < W * H := Nat.mul_pos hW hH
  obtain ⟨l1, l2⟩ := farN_law W (dAt W k (spotsTo W f (W * H))) (fun i => by rw [dAt, bestD, if_neg (by omega)]; exact farG_nonneg _ _ _ _) (W * H)
  obtain ⟨i, hi, e1, e2⟩ := l2 hpos
  refine h.mono ?_
  rintro e w' ⟨rfl, hb⟩
  refine ⟨i % W, i / W, _, Nat.mod_lt _ hW, by rw [Nat.div_lt_iff_lt_mul hW, Nat.mul_comm]; exact hi, by rw [e1]; rfl, ?_, l1, hb⟩
  rw [show i / W * W + i % W = i by rw [Nat.mul_comm]; exact Nat.div_add_mod i W, e2]
theorem farthest_none (p : Option Addr) (W H c k : Nat) (f : Nat → Bool) (w : World) (P : Pic w p W H f) (hk : k < 3) (h0 : (spotsTo W f (W * H)).length = 0) :
    Calls Try.prog 47 #[.agg #[.slice p H c], .int .i64 (k : Int)] w fun e w' => e = .returned (.tuple #[.agg #[.int .i64 0, .int .i64 0], .int .i64 0, .bool false]) ∧ Below w.heap.size w w' := by
  obtain ⟨a1, a2, a3, a4, a5⟩ := P.out
  have h := farthestOf_any p c _ k w a1 a2 a3
  have hd := some_render (k := k) (f := f) P.w1 P.w2 P.h1 P.h2 hk
  rw [h0] at hd
  rw [farR, hd, render_len] at h
  exact h
theorem nearest_pic (p : Option Addr) (W H c k x y : Nat) (f : Nat → Bool) (w : World) (P : Pic w p W H f) (hk : k < 3) (h0 : 0 < (spotsTo W f (W * H)).length) (hx : x < W) (hy : y < H) (u v : Nat) (hb : bestS (farG k x y) (spotsTo W f (W * H)) = ((u : Int), (v : Int))) :
    Calls Try.prog 45 #[.agg #[.slice p H c], .int .i64 (k : Int), .agg #[.int .i64 (x : Int), .int .i64 (y : Int)]] w fun e w' => e = .returned (.tuple #[.agg #[.int .i64 (u : Int), .int .i64 (v : Int)], .bool true]) ∧ Below w.heap.size w w' := by
  obtain ⟨a1, a2, a3, a4, a5⟩ := P.out
  have h := nearestOf_any p c _ k x y w a1 a2 a3
  have hd := some_render (k := k) (f := f) P.w1 P.w2 P.h1 P.h2 hk
  rw [decide_eq_true h0] at hd
  have hn : nearOkB (render W H f) k x y = true := by
    rw [nearOkB, hd, a5, render_len, hasB_mk hx hy]; rfl
  rw [nearR, hn, if_pos rfl, spotsL_render P.w1 P.w2 P.h1 P.h2, hb, render_len] at h
  exact h
theorem count_pic (p : Option Addr) (W H c : Nat) (f : Nat → Bool) (w : World) (P : Pic w p W H f) :
    Calls Try.prog 50 #[.agg #[.slice p H c]] w fun e w' => e = .returned (.tuple #[.int .i64 ((spotsTo W f (W * H)).length : Int), .bool true]) ∧ Below w.heap.size w w' := by
  obtain ⟨a1, a2, a3, a4, a5⟩ := P.out
  have h := countBlack_any p c _ w a1 a2 a3
  rw [spotsL_render P.w1 P.w2 P.h1 P.h2, a4, render_len] at h
  exact h
theorem valid_pic (p : Option Addr) (W H c : Nat) (f : Nat → Bool) (w : World) (P : Pic w p W H f) :
    Calls Try.prog 51 #[.agg #[.slice p H c]] w fun e w' => e = .returned (.bool true) ∧ Below w.heap.size w w' := by
  obtain ⟨a1, a2, a3, a4, a5⟩ := P.out
  have h := validPicture_any p c _ w a1 a2 a3
  rw [a4, render_len] at h
  exact h
end Go.Proofs.Ytakoklldmdbphaa
