/- Lists of triples of numbers: their cells, slices of them of the call's own. -/
import Derived.Test.YtjplikkehhpomaaBase
set_option linter.unusedVariables false
set_option linter.unusedSimpArgs false
namespace Go.Proofs.Ytjplikkehhpomaa
open Go.RowKit

def triV (q : Int × Int × Int) : List Value := [.int .i64 q.1, .int .i64 q.2.1, .int .i64 q.2.2]
def triCells (l : List (Int × Int × Int)) : List Value := l.flatMap triV
theorem triCells_len (l : List (Int × Int × Int)) : (triCells l).length = l.length * 3 := by
  induction l with
  | nil => rfl
  | cons a l ih => simp [triCells, List.flatMap_cons, triV] at ih ⊢; omega
theorem triCells_app (l m : List (Int × Int × Int)) : triCells (l ++ m) = triCells l ++ triCells m := by simp [triCells]
theorem triCells_snoc (l : List (Int × Int × Int)) (x y z : Int) : triCells (l ++ [(x, y, z)]) = triCells l ++ [.int .i64 x, .int .i64 y, .int .i64 z] := by simp [triCells, triV]
/-- The cell i of a list of triples. -/
def triAt (l : List (Int × Int × Int)) (i : Nat) : Value := (triV (l.getD (i / 3) (0, 0, 0))).getD (i % 3) undef
theorem triAt_0 (l : List (Int × Int × Int)) (k : Nat) : triAt l (k * 3) = .int .i64 (l.getD k (0, 0, 0)).1 := by
  rw [triAt, show k * 3 / 3 = k by omega, show k * 3 % 3 = 0 by omega]
  rfl
theorem triAt_1 (l : List (Int × Int × Int)) (k : Nat) : triAt l (k * 3 + 1) = .int .i64 (l.getD k (0, 0, 0)).2.1 := by
  rw [triAt, show (k * 3 + 1) / 3 = k by omega, show (k * 3 + 1) % 3 = 1 by omega]
  rfl
theorem triAt_2 (l : List (Int × Int × Int)) (k : Nat) : triAt l (k * 3 + 2) = .int .i64 (l.getD k (0, 0, 0)).2.2 := by
  rw [triAt, show (k * 3 + 2) / 3 = k by omega, show (k * 3 + 2) % 3 = 2 by omega]
  rfl
theorem triCells_at (l : List (Int × Int × Int)) : ∀ i (hi : i < (triCells l).length), (triCells l)[i] = triAt l i := by
  induction l with
  | nil => intro i hi; simp [triCells] at hi
  | cons a l ih =>
    intro i hi
    have e : triCells (a :: l) = triV a ++ triCells l := by simp [triCells]
    have hl : (triV a).length = 3 := rfl
    by_cases h : i < 3
    · have hi2 : i < (triV a).length := by rw [hl]; exact h
      have : (triCells (a :: l))[i] = (triV a)[i]'hi2 := by simp only [e]; exact List.getElem_append_left hi2
      rw [this, triAt, Nat.div_eq_of_lt h, Nat.mod_eq_of_lt h]
      simp only [List.getD, List.getElem?_cons_zero, Option.getD_some]
      rw [List.getElem?_eq_getElem hi2, Option.getD_some]
    · have hj : i - 3 < (triCells l).length := by rw [e, List.length_append, hl] at hi; omega
      have : (triCells (a :: l))[i] = (triCells l)[i - 3] := by simp [e, List.getElem_append, hl, h]
      rw [this, ih _ hj, triAt, triAt, show i / 3 = (i - 3) / 3 + 1 by omega, show i % 3 = (i - 3) % 3 by omega]
      simp [List.getD]
/-- A slice of triples of the call's own, from block B on; T: their type. -/
def OwnTris (T : TypeId) (B : Nat) (w : World) (v : Value) (l : List (Int × Int × Int)) : Prop :=
  ∃ p c, v = .slice p l.length c ∧ w.ownsRow B T 3 v l.length (triCells l)
section
variable {T : TypeId}
theorem OwnTris.bl {B : Nat} {w w' : World} {v : Value} {l : List (Int × Int × Int)} (h : OwnTris T B w v l) (hb : Below w.heap.size w w') : OwnTris T B w' v l := by
  obtain ⟨p, c, hv, ho⟩ := h
  exact ⟨p, c, hv, own_below ho hb (Nat.le_refl _)⟩
theorem OwnTris.mono {B B' : Nat} {w : World} {v : Value} {l : List (Int × Int × Int)} (h : OwnTris T B w v l) (hb : B' ≤ B) : OwnTris T B' w v l := by
  obtain ⟨p, c, hv, ho⟩ := h
  exact ⟨p, c, hv, own_mono ho hb⟩
theorem OwnTris.nil (B : Nat) (w : World) : OwnTris T B w (.slice none 0 0) [] := ⟨none, 0, rfl, World.ownsRow_nil _ _ _ _⟩
theorem OwnTris.form {B : Nat} {w : World} {v : Value} {l : List (Int × Int × Int)} (h : OwnTris T B w v l) : ∃ p c, v = .slice p l.length c := by
  obtain ⟨p, c, hv, _⟩ := h
  exact ⟨p, c, hv⟩
theorem OwnTris.own {B : Nat} {w : World} {p : Option Addr} {n c : Nat} {l : List (Int × Int × Int)} (h : OwnTris T B w (.slice p n c) l) : n = l.length ∧ w.ownsRow B T 3 (.slice p n c) l.length (triCells l) := by
  obtain ⟨p', c', hv, ho⟩ := h
  simp only [Value.slice.injEq] at hv
  obtain ⟨rfl, rfl, rfl⟩ := hv
  exact ⟨rfl, ho⟩
theorem OwnTris.ge {B : Nat} {w : World} {v : Value} {l : List (Int × Int × Int)} (h : OwnTris T B w v l) : ∀ k, v.ownBlock = some k → B ≤ k ∧ k < w.heap.size := by
  obtain ⟨p, c, hv, ho⟩ := h
  exact ho.lt
theorem OwnTris.rd {B : Nat} {w : World} {p : Option Addr} {n c : Nat} {l : List (Int × Int × Int)} (h : OwnTris T B w (.slice p n c) l) : Rd w p (l.length * 3) (triAt l) := by
  obtain ⟨_, ho⟩ := h.own
  have := Rd.of_own ho (triCells_at l)
  rwa [triCells_len] at this
theorem OwnTris.grown {B : Nat} {w w' : World} {v : Value} {l : List (Int × Int × Int)} (h : OwnTris T B w v l) {r : Option Nat} (hg : w.grownBy w' r) (hr : ∀ k, v.ownBlock = some k → some k ≠ r) : OwnTris T B w' v l := by
  obtain ⟨p, c, hv, ho⟩ := h
  refine ⟨p, c, hv, ho.kept hg ?_⟩
  cases hk : v.ownBlock with
  | none => exact .inl rfl
  | some k => exact .inr (hr k hk)
theorem OwnTris.one {w : World} (q : Int × Int × Int) : OwnTris T w.heap.size (w.alloc (.cells (triV q).toArray T)) (.slice (some ⟨w.heap.size, 0, none⟩) 1 1) [q] :=
  ⟨_, _, rfl, rfl, .inr ⟨w.heap.size, 1, (triV q).toArray, rfl, Nat.le_refl _, heap_alloc_new w _, Nat.le_refl _, by simp [maxLen], rfl, by simp [triCells, triV]⟩⟩
end
theorem one_tri (x y z : Int) : ∀ u ∈ (#[Value.int .i64 x, Value.int .i64 y, Value.int .i64 z] : Array Value).toList, u.oneCell' = true := by simp [Value.oneCell']
/-- The cells of triple k. -/
theorem Rd.tri {w : World} {p : Option Addr} {n : Nat} {l : List (Int × Int × Int)} (h : Rd w p (n * 3) (triAt l)) {k : Nat} (hk : k < n) :
    ∃ b o, p = some ⟨b, o, none⟩ ∧ CellAt w b (o + k * 3) (.int .i64 (l.getD k (0, 0, 0)).1) ∧ CellAt w b (o + k * 3 + 1) (.int .i64 (l.getD k (0, 0, 0)).2.1) ∧ CellAt w b (o + k * 3 + 2) (.int .i64 (l.getD k (0, 0, 0)).2.2) := by
  rcases h with h | ⟨b, o, hp, hc⟩
  · omega
  · refine ⟨b, o, hp, ?_, ?_, ?_⟩
    · have := hc (k * 3) (by omega)
      rw [triAt_0] at this
      exact this
    · have := hc (k * 3 + 1) (by omega)
      rw [triAt_1] at this
      simpa [Nat.add_assoc, CellAt] using this
    · have := hc (k * 3 + 2) (by omega)
      rw [triAt_2] at this
      simpa [Nat.add_assoc, CellAt] using this
theorem info_edge : (Try.prog.info? 56).map (fun i => (i.zero, i.size, i.bytes)) = some (some (.agg #[.int .i64 0, .int .i64 0, .int .i64 0]), 3, 24) := by kernel_rfl
end Go.Proofs.Ytjplikkehhpomaa
