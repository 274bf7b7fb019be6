/- Slices of numbers and slices of these: how they read, which are the call's own; the laws' helpers over them. -/
import Derived.Test.YtjplikkehhpomaaLawStr
set_option linter.unusedVariables false
namespace Go.Proofs.Ytjplikkehhpomaa
open Go.RowKit

/-- The cells of a list of numbers. -/
def intCells (l : List Int) : List Value := l.map (Value.int .i64)
def intAt (l : List Int) (i : Nat) : Value := .int .i64 (l.getD i 0)
theorem intCells_len (l : List Int) : (intCells l).length = l.length := by simp [intCells]
theorem intCells_snoc (l : List Int) (x : Int) : intCells (l ++ [x]) = intCells l ++ [.int .i64 x] := by simp [intCells]
theorem intCells_at (l : List Int) : ∀ i (hi : i < (intCells l).length), (intCells l)[i] = intAt l i := by
  intro i hi
  have hi' : i < l.length := by rw [intCells_len] at hi; exact hi
  simp [intCells, intAt, List.getD, List.getElem?_eq_getElem hi']

/-- A slice of numbers of the call's own, from block B on. -/
def OwnInts (B : Nat) (w : World) (v : Value) (l : List Int) : Prop :=
  ∃ p c, v = .slice p l.length c ∧ w.ownsRow B 2 1 v l.length (intCells l)
theorem OwnInts.bl {B : Nat} {w w' : World} {v : Value} {l : List Int} (h : OwnInts B w v l) (hb : Below w.heap.size w w') : OwnInts B w' v l := by
  obtain ⟨p, c, hv, ho⟩ := h
  exact ⟨p, c, hv, own_below ho hb (Nat.le_refl _)⟩
theorem OwnInts.mono {B B' : Nat} {w : World} {v : Value} {l : List Int} (h : OwnInts B w v l) (hb : B' ≤ B) : OwnInts B' w v l := by
  obtain ⟨p, c, hv, ho⟩ := h
  exact ⟨p, c, hv, own_mono ho hb⟩
theorem OwnInts.nil (B : Nat) (w : World) : OwnInts B w (.slice none 0 0) [] := ⟨none, 0, rfl, World.ownsRow_nil _ _ _ _⟩
theorem OwnInts.form {B : Nat} {w : World} {v : Value} {l : List Int} (h : OwnInts B w v l) : ∃ p c, v = .slice p l.length c := by
  obtain ⟨p, c, hv, _⟩ := h
  exact ⟨p, c, hv⟩
theorem OwnInts.ge {B : Nat} {w : World} {v : Value} {l : List Int} (h : OwnInts B w v l) : ∀ k, v.ownBlock = some k → B ≤ k ∧ k < w.heap.size := by
  obtain ⟨p, c, hv, ho⟩ := h
  exact ho.lt
theorem OwnInts.rd {B : Nat} {w : World} {p : Option Addr} {n c : Nat} {l : List Int} (h : OwnInts B w (.slice p n c) l) : Rd w p l.length (intAt l) := by
  obtain ⟨p', c', hv, ho⟩ := h
  simp only [Value.slice.injEq] at hv
  obtain ⟨rfl, rfl, rfl⟩ := hv
  have := Rd.of_own ho (intCells_at l)
  rwa [intCells_len] at this
theorem OwnInts.grown {B : Nat} {w w' : World} {v : Value} {l : List Int} (h : OwnInts B w v l) {r : Option Nat} (hg : w.grownBy w' r) (hr : ∀ k, v.ownBlock = some k → some k ≠ r) : OwnInts B w' v l := by
  obtain ⟨p, c, hv, ho⟩ := h
  refine ⟨p, c, hv, ho.kept hg ?_⟩
  cases hk : v.ownBlock with
  | none => exact .inl rfl
  | some k => exact .inr (hr k hk)
theorem OwnInts.grow {B : Nat} {w w' : World} {v : Value} {l : List Int} (h : OwnInts B w v l) {r : Option Nat} (hg : w.grownBy w' r) (hr : ∀ k g, v.ownBlock = some k → r = some g → k ≠ g) : OwnInts B w' v l :=
  h.grown hg (fun k hk e => by cases r with | none => cases e | some g => exact hr k g hk rfl (by cases e; rfl))
theorem OwnInts.row {B : Nat} {w : World} {p : Option Addr} {n c : Nat} {l : List Int} (h : OwnInts B w (.slice p n c) l) : n = l.length ∧ (l = [] ∨ ∃ g m f, p = some ⟨g, 0, none⟩ ∧ B ≤ g ∧ g < w.heap.size ∧ l.length ≤ m ∧ w.rowIs g 2 m f) := by
  obtain ⟨p', c', hv, ho⟩ := h
  simp only [Value.slice.injEq] at hv
  obtain ⟨rfl, rfl, rfl⟩ := hv
  refine ⟨rfl, ?_⟩
  rcases ho.2 with ⟨_, h0⟩ | ⟨g, cap, cur, hv, hb, hg, hn, hm, hs, _⟩
  · exact .inl (List.length_eq_zero_iff.1 h0)
  · simp only [Value.slice.injEq] at hv
    refine .inr ⟨g, cur.size, fun i => (cur[i]?).getD undef, hv.1, hb, (Array.getElem?_eq_some_iff.1 hg).1, by omega, cur, hg, rfl, fun i hi => by simp [hi]⟩

theorem info_i64 : (Try.prog.info? 2).map (fun i => (i.zero, i.size, i.bytes)) = some (some (.int .i64 0), 1, 8) := by kernel_rfl

/-- The marks k, k + 1, .. as numbers. -/
def numAt (k : Nat) (i : Nat) : Value := .int .i64 ((k + i : Nat) : Int)
theorem marked_step {f : Nat → Value} {k j : Nat} {w : World} {g : Nat} {t : TypeId} {m : Nat} (h : w.rowIs g t m (fun i => if i < j then numAt k i else f i)) :
    (w.setCell ⟨g, j, none⟩ (.int .i64 ((k + j : Nat) : Int))).rowIs g t m (fun i => if i < j + 1 then numAt k i else f i) :=
  (h.set j (numAt k j)).congr (fun i _ => by
    by_cases e : i = j
    · subst e; simp
    · by_cases l : i < j
      · simp [e, l, show i < j + 1 by omega]
      · simp [e, l, show ¬ i < j + 1 by omega])

end Go.Proofs.Ytjplikkehhpomaa
