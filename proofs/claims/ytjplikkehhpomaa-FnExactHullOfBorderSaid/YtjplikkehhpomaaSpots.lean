/- Contracts on lists of spots: those of an image, and the laws' helpers. -/
import Derived.Test.YtjplikkehhpomaaEach
set_option linter.unusedVariables false
namespace Go.Proofs.Ytjplikkehhpomaa
open Go.RowKit

/-- The cells of a list of spots. -/
def spotCells (l : List (Int × Int)) : List Value := l.flatMap fun s => [.int .i64 s.1, .int .i64 s.2]
theorem spotCells_len (l : List (Int × Int)) : (spotCells l).length = l.length * 2 := by
  induction l with
  | nil => rfl
  | cons a l ih => simp [spotCells, List.flatMap_cons] at ih ⊢; omega
theorem spotCells_snoc (l : List (Int × Int)) (x y : Int) : spotCells (l ++ [(x, y)]) = spotCells l ++ [.int .i64 x, .int .i64 y] := by simp [spotCells]
/-- The cell i of a list of spots. -/
def spotAt (l : List (Int × Int)) (i : Nat) : Value := .int .i64 (if i % 2 = 0 then (l.getD (i / 2) (0, 0)).1 else (l.getD (i / 2) (0, 0)).2)
theorem spotAt_x (l : List (Int × Int)) (k : Nat) : spotAt l (k * 2) = .int .i64 (l.getD k (0, 0)).1 := by simp [spotAt]
theorem spotAt_y (l : List (Int × Int)) (k : Nat) : spotAt l (k * 2 + 1) = .int .i64 (l.getD k (0, 0)).2 := by
  unfold spotAt
  rw [if_neg (by omega), show (k * 2 + 1) / 2 = k by omega]
theorem spotCells_at (l : List (Int × Int)) : ∀ i (hi : i < (spotCells l).length), (spotCells l)[i] = spotAt l i := by
  induction l with
  | nil => intro i hi; simp [spotCells] at hi
  | cons a l ih =>
    intro i hi
    have e : spotCells (a :: l) = .int .i64 a.1 :: .int .i64 a.2 :: spotCells l := by simp [spotCells]
    match i with
    | 0 => simp [e, spotAt]
    | 1 => simp [e, spotAt]
    | j + 2 =>
      have hj : j < (spotCells l).length := by rw [e] at hi; simp at hi; omega
      have : (spotCells (a :: l))[j + 2] = (spotCells l)[j] := by simp [e]
      rw [this, ih j hj]
      simp [spotAt, show (j + 2) / 2 = j / 2 + 1 by omega, show (j + 2) % 2 = j % 2 by omega]

/-- The black ones of the first n pixels. -/
def spotsTo (W : Nat) (f : Nat → Bool) (n : Nat) : List (Int × Int) := (List.range n).filterMap fun i => if f i then some (((i % W : Nat) : Int), ((i / W : Nat) : Int)) else none
theorem spotsTo_succ (W : Nat) (f : Nat → Bool) (n : Nat) : spotsTo W f (n + 1) = spotsTo W f n ++ (if f n then [(((n % W : Nat) : Int), ((n / W : Nat) : Int))] else []) := by
  unfold spotsTo
  rw [List.range_succ, List.filterMap_append]
  congr 1
  by_cases h : f n <;> simp [h]
theorem spotsTo_len (W : Nat) (f : Nat → Bool) (n : Nat) : (spotsTo W f n).length ≤ n := by
  have := List.length_filterMap_le (fun i => if f i then some (((i % W : Nat) : Int), ((i / W : Nat) : Int)) else none) (List.range n)
  simpa [spotsTo] using this
theorem at_mod {W x y : Nat} (hx : x < W) : (y * W + x) % W = x ∧ (y * W + x) / W = y :=
  ⟨by rw [Nat.mul_comm, Nat.mul_add_mod, Nat.mod_eq_of_lt hx], by rw [Nat.mul_comm, Nat.mul_add_div (by omega), Nat.div_eq_of_lt hx, Nat.add_zero]⟩

theorem info_spot : (Try.prog.info? 28).map (fun i => (i.zero, i.size, i.bytes)) = some (some (.agg #[.int .i64 0, .int .i64 0]), 2, 16) := by kernel_rfl

/-- A slice of spots of the call's own, from block B on. -/
def OwnSpots (B : Nat) (w : World) (v : Value) (l : List (Int × Int)) : Prop :=
  ∃ p c, v = .slice p l.length c ∧ w.ownsRow B 28 2 v l.length (spotCells l)
theorem OwnSpots.bl {B : Nat} {w w' : World} {v : Value} {l : List (Int × Int)} (h : OwnSpots B w v l) (hb : Below w.heap.size w w') : OwnSpots B w' v l := by
  obtain ⟨p, c, hv, ho⟩ := h
  exact ⟨p, c, hv, own_below ho hb (Nat.le_refl _)⟩
theorem OwnSpots.mono {B B' : Nat} {w : World} {v : Value} {l : List (Int × Int)} (h : OwnSpots B w v l) (hb : B' ≤ B) : OwnSpots B' w v l := by
  obtain ⟨p, c, hv, ho⟩ := h
  exact ⟨p, c, hv, own_mono ho hb⟩
theorem OwnSpots.nil (B : Nat) (w : World) : OwnSpots B w (.slice none 0 0) [] := ⟨none, 0, rfl, World.ownsRow_nil _ _ _ _⟩
theorem OwnSpots.form {B : Nat} {w : World} {v : Value} {l : List (Int × Int)} (h : OwnSpots B w v l) : ∃ p c, v = .slice p l.length c := by
  obtain ⟨p, c, hv, _⟩ := h
  exact ⟨p, c, hv⟩
theorem OwnSpots.ge {B : Nat} {w : World} {v : Value} {l : List (Int × Int)} (h : OwnSpots B w v l) : ∀ k, v.ownBlock = some k → B ≤ k ∧ k < w.heap.size := by
  obtain ⟨p, c, hv, ho⟩ := h
  exact ho.lt
theorem OwnSpots.rd {B : Nat} {w : World} {p : Option Addr} {n c : Nat} {l : List (Int × Int)} (h : OwnSpots B w (.slice p n c) l) : Rd w p (l.length * 2) (spotAt l) := by
  obtain ⟨p', c', hv, ho⟩ := h
  simp only [Value.slice.injEq] at hv
  obtain ⟨rfl, rfl, rfl⟩ := hv
  have := Rd.of_own ho (spotCells_at l)
  rwa [spotCells_len] at this
theorem OwnSpots.grown {B : Nat} {w w' : World} {v : Value} {l : List (Int × Int)} (h : OwnSpots B w v l) {r : Option Nat} (hg : w.grownBy w' r) (hr : ∀ k, v.ownBlock = some k → some k ≠ r) : OwnSpots B w' v l := by
  obtain ⟨p, c, hv, ho⟩ := h
  refine ⟨p, c, hv, ho.kept hg ?_⟩
  cases hk : v.ownBlock with
  | none => exact .inl rfl
  | some k => exact .inr (hr k hk)

/-- A variable in block ob that holds a slice of spots of the call's own. -/
def SpotsIn (B : Nat) (w : World) (ob : Nat) (l : List (Int × Int)) : Prop :=
  ∃ p c, Box w ob (.slice p l.length c) 33 ∧ w.ownsRow B 28 2 (.slice p l.length c) l.length (spotCells l) ∧ p ≠ some ⟨ob, 0, none⟩

end Go.Proofs.Ytjplikkehhpomaa
