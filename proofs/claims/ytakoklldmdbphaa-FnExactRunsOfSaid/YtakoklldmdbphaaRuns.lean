/- Runs of a picture: what the reference's and the program's contracts have in common. -/
import Derived.Test.YtakoklldmdbphaaNearOf
import Derived.Test.YtakoklldmdbphaaGrid
set_option linter.unusedVariables false
namespace Go.Proofs.Ytakoklldmdbphaa
open Go.RowKit

abbrev Run := Int × Int × Int
def runRow (t : Run) : List Int := [t.1, t.2.1, t.2.2]
def bumpR (t : Run) : Run := (t.1, t.2.1, t.2.2 + 1)
def bumpT (T : List Run) : List Run := T.set (T.length - 1) (bumpR (T.getD (T.length - 1) (0, 0, 0)))
/-- The runs of the first n pixels. -/
def runsTo (W : Nat) (f : Nat → Bool) : Nat → List Run
  | 0 => []
  | n + 1 => if f n = true then (if n % W ≠ 0 ∧ f (n - 1) = true then bumpT (runsTo W f n) else runsTo W f n ++ [(((n / W : Nat) : Int), ((n % W : Nat) : Int), 1)]) else runsTo W f n
theorem bumpT_len (T : List Run) : (bumpT T).length = T.length := by simp [bumpT]
theorem runsTo_len (W : Nat) (f : Nat → Bool) (n : Nat) : (runsTo W f n).length ≤ n := by
  induction n with
  | zero => simp [runsTo]
  | succ n ih =>
    rw [runsTo]
    split
    · split
      · rw [bumpT_len]; omega
      · simp; omega
    · omega
theorem runsTo_pos (W : Nat) (f : Nat → Bool) : ∀ n, f n = true → 0 < (runsTo W f (n + 1)).length := by
  intro n
  induction n with
  | zero => intro h; simp [runsTo, h]
  | succ n ih =>
    intro h
    rw [runsTo, if_pos h]
    split
    · rename_i h2
      rw [bumpT_len]
      exact ih (by simpa using h2.2)
    · simp
theorem runsTo_bd (W : Nat) (f : Nat → Bool) (n : Nat) : ∀ t ∈ runsTo W f n, 1 ≤ t.2.2 ∧ t.2.2 ≤ n := by
  induction n with
  | zero => intro t ht; simp [runsTo] at ht
  | succ n ih =>
    intro t ht
    rw [runsTo] at ht
    split at ht
    · rename_i hf
      split at ht
      · rename_i h2
        rcases List.mem_or_eq_of_mem_set ht with h | h
        · have := ih t h; omega
        · have h3 : 0 < (runsTo W f n).length := by
            cases n with
            | zero => simp at h2
            | succ m => exact runsTo_pos W f m (by simpa using h2.2)
          have h4 := ih ((runsTo W f n).getD ((runsTo W f n).length - 1) (0, 0, 0)) (by simp [List.getD, List.getElem?_eq_getElem (show (runsTo W f n).length - 1 < (runsTo W f n).length by omega)])
          rw [h]
          simp only [bumpR]
          omega
      · rcases List.mem_append.1 ht with h | h
        · have := ih t h; omega
        · simp only [List.mem_singleton] at h
          subst h
          dsimp only
          omega
    · have := ih t ht; omega
theorem runsTo_white {W : Nat} {f : Nat → Bool} {n : Nat} (h : f n = false) : runsTo W f (n + 1) = runsTo W f n := by rw [runsTo, if_neg (by simp [h])]
theorem runsTo_new {W : Nat} {f : Nat → Bool} {x y : Nat} (hx : x < W) (h : f (y * W + x) = true) (hp : x = 0 ∨ f (y * W + x - 1) = false) : runsTo W f (y * W + x + 1) = runsTo W f (y * W + x) ++ [((y : Int), (x : Int), 1)] := by
  rw [runsTo, if_pos h, if_neg (by rw [(at_mod hx).1]; rintro ⟨h1, h2⟩; rcases hp with hp | hp <;> simp_all), (at_mod hx).1, (at_mod hx).2]
theorem runsTo_more {W : Nat} {f : Nat → Bool} {x y : Nat} (hx : x < W) (h : f (y * W + x) = true) (hx0 : x ≠ 0) (hp : f (y * W + x - 1) = true) : runsTo W f (y * W + x + 1) = bumpT (runsTo W f (y * W + x)) := by
  rw [runsTo, if_pos h, if_pos ⟨by rw [(at_mod hx).1]; exact hx0, hp⟩]
theorem bumpT_snoc (T : List Run) (t : Run) : bumpT (T ++ [t]) = T ++ [bumpR t] := by
  simp [bumpT, List.getD]
/-- A run at once. -/
theorem runsTo_run {W : Nat} {f : Nat → Bool} {a y : Nat} (ha : a = 0 ∨ f (y * W + a - 1) = false) : ∀ k, a + (k + 1) ≤ W → (∀ i, i < k + 1 → f (y * W + (a + i)) = true) →
    runsTo W f (y * W + (a + (k + 1))) = runsTo W f (y * W + a) ++ [((y : Int), (a : Int), ((k : Int) + 1))] := by
  intro k
  induction k with
  | zero =>
    intro h1 h2
    have := runsTo_new (f := f) (y := y) (show a < W by omega) (by simpa using h2 0 (by omega)) ha
    simpa [Nat.add_assoc] using this
  | succ k ih =>
    intro h1 h2
    have h3 := ih (by omega) (fun i hi => h2 i (by omega))
    have h4 := runsTo_more (f := f) (y := y) (x := a + (k + 1)) (by omega) (h2 (k + 1) (by omega)) (by omega) (by
      have := h2 k (by omega)
      rwa [show y * W + (a + (k + 1)) - 1 = y * W + (a + k) by omega])
    rw [show y * W + (a + (k + 1 + 1)) = y * W + (a + (k + 1)) + 1 by omega, h4, h3, bumpT_snoc]
    simp only [bumpR]
    norm_cast
def runsLT (ss : List ByteArray) : List Run := if okPic ss then runsTo (wid ss) (bits ss) (wid ss * ss.length) else []
def runsL (ss : List ByteArray) : List (List Int) := (runsLT ss).map runRow
theorem runsLT_len (ss : List ByteArray) : (runsLT ss).length ≤ 256 := by
  unfold runsLT
  split
  · rename_i h
    have hd := okPic_dims h
    exact Nat.le_trans (runsTo_len _ _ _) (mul_256 (by omega) (by omega))
  · simp
theorem lenTo_runs (T : List Run) : ∀ i, i ≤ T.length → lenTo (T.map runRow) i = 3 * i := by
  intro i
  induction i with
  | zero => intro _; simp [lenTo]
  | succ i ih =>
    intro h
    rw [lenTo_succ _ _ (by rw [List.length_map]; omega), ih (by omega)]
    have : ((T.map runRow).getD i []).length = 3 := by simp [List.getD, List.getElem?_map, List.getElem?_eq_getElem (show i < T.length by omega), runRow]
    rw [this]; omega
theorem getD_runs {T : List Run} {i : Nat} (h : i < T.length) : (T.map runRow).getD i [] = runRow (T.getD i (0, 0, 0)) := by
  simp [List.getD, List.getElem?_map, List.getElem?_eq_getElem h]
theorem map_bump (T : List Run) (h : 0 < T.length) : (bumpT T).map runRow = (T.map runRow).set (T.length - 1) (((T.map runRow).getD (T.length - 1) []).set 2 ((T.getD (T.length - 1) (0, 0, 0)).2.2 + 1)) := by
  rw [bumpT, List.map_set, getD_runs (by omega)]
  rfl

theorem OwnInts.other {B : Nat} {w : World} {v : Value} {l : List Int} (h : OwnInts B w v l) {a : Addr} (ha : some a.block ≠ v.ownBlock) (u : Value) : OwnInts B (w.setCell a u) v l := by
  obtain ⟨p, c, hv, ho⟩ := h
  exact ⟨p, c, hv, own_other ho ha u⟩
theorem OwnInts.put {B : Nat} {w : World} {g n c : Nat} {l : List Int} (h : OwnInts B w (.slice (some ⟨g, 0, none⟩) n c) l) (j : Nat) (x : Int) : OwnInts B (w.setCell ⟨g, j, none⟩ (.int .i64 x)) (.slice (some ⟨g, 0, none⟩) n c) (l.set j x) := by
  obtain ⟨p, c', hv, ho⟩ := h
  simp only [Value.slice.injEq] at hv
  obtain ⟨rfl, rfl, rfl⟩ := hv
  refine ⟨_, _, by rw [List.length_set], ?_⟩
  have := (ho.stored j (.int .i64 x)).1
  rw [List.length_set, intCells, List.map_set]
  exact this
/-- A number of a row changes. -/
theorem OwnIntss.put {B : Nat} {w : World} {v : Value} {L : List (List Int)} {vs : Nat → Value} (h : OwnIntss B w v L vs) {i : Nat} (hi : i < L.length) {g n c : Nat} (hv : vs i = .slice (some ⟨g, 0, none⟩) n c) (j : Nat) (x : Int) :
    OwnIntss B (w.setCell ⟨g, j, none⟩ (.int .i64 x)) v (L.set i ((L.getD i []).set j x)) vs := by
  have hg : (vs i).ownBlock = some g := by rw [hv]; rfl
  obtain ⟨p, c', hv', ho⟩ := h.own
  refine ⟨⟨p, c', by rw [List.length_set]; exact hv', ?_⟩, ?_, ?_, ?_⟩
  · rw [List.length_set]
    exact own_other ho (fun e => h.apart0 i hi g hg e.symm) _
  · intro k hk
    rw [List.length_set] at hk
    by_cases e : k = i
    · subst e
      have h1 := h.inner k hk
      rw [hv] at h1 ⊢
      have h2 := h1.put j x
      have e2 : (L.set k ((L.getD k []).set j x)).getD k [] = (L.getD k []).set j x := by simp [List.getD, hk]
      rw [e2]
      exact h2
    · have e2 : (L.set i ((L.getD i []).set j x)).getD k [] = L.getD k [] := by simp [List.getD, Ne.symm e]
      rw [e2]
      exact (h.inner k hk).other (fun e' => h.apart i k hi hk (Ne.symm e) g hg e'.symm) _
  · intro a b ha hb
    rw [List.length_set] at ha hb
    exact h.apart a b ha hb
  · intro a ha
    rw [List.length_set] at ha
    exact h.apart0 a ha
end Go.Proofs.Ytakoklldmdbphaa
