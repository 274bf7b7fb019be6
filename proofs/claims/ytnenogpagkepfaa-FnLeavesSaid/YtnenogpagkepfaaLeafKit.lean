/- Lists of leaves: their cells, slices of them of the call's own. -/
import Derived.Test.YtnenogpagkepfaaQTree
import Derived.Test.YtnenogpagkepfaaBase
set_option linter.unusedVariables false
set_option linter.unusedSimpArgs false
namespace Go.Proofs.Ytnenogpagkepfaa
open Go.RowKit

/-- The cells of a leaf: of the program's (im), of the reference's. -/
def leafV (im : Bool) (q : QLeaf) : List Value := [.int .i64 q.x, .int .i64 q.y, .int .i64 q.side, if im then .bool q.black else .int .i64 (if q.black then 1 else 0), .string q.addr]
def leafCells (im : Bool) (l : List QLeaf) : List Value := l.flatMap (leafV im)
theorem leafCells_len (im : Bool) (l : List QLeaf) : (leafCells im l).length = l.length * 5 := by
  induction l with
  | nil => rfl
  | cons a l ih => simp [leafCells, List.flatMap_cons, leafV] at ih ⊢; omega
theorem leafCells_app (im : Bool) (l m : List QLeaf) : leafCells im (l ++ m) = leafCells im l ++ leafCells im m := by simp [leafCells]
def noLeaf : QLeaf := ⟨0, 0, 0, false, ByteArray.empty⟩
/-- The cell i of a list of leaves. -/
def leafAt (im : Bool) (l : List QLeaf) (i : Nat) : Value := (leafV im (l.getD (i / 5) noLeaf)).getD (i % 5) undef
theorem leafCells_at (im : Bool) (l : List QLeaf) : ∀ i (hi : i < (leafCells im l).length), (leafCells im l)[i] = leafAt im l i := by
  induction l with
  | nil => intro i hi; simp [leafCells] at hi
  | cons a l ih =>
    intro i hi
    have e : leafCells im (a :: l) = leafV im a ++ leafCells im l := by simp [leafCells]
    have hl : (leafV im a).length = 5 := rfl
    by_cases h : i < 5
    · have hi2 : i < (leafV im a).length := by rw [hl]; exact h
      have : (leafCells im (a :: l))[i] = (leafV im a)[i]'hi2 := by simp only [e]; exact List.getElem_append_left hi2
      rw [this, leafAt, Nat.div_eq_of_lt h, Nat.mod_eq_of_lt h]
      simp only [List.getD, List.getElem?_cons_zero, Option.getD_some]
      rw [List.getElem?_eq_getElem hi2, Option.getD_some]
    · have hj : i - 5 < (leafCells im l).length := by rw [e, List.length_append, hl] at hi; omega
      have : (leafCells im (a :: l))[i] = (leafCells im l)[i - 5] := by simp [e, List.getElem_append, hl, h]
      rw [this, ih _ hj, leafAt, leafAt, show i / 5 = (i - 5) / 5 + 1 by omega, show i % 5 = (i - 5) % 5 by omega]
      simp [List.getD]
theorem leaf_one (im : Bool) (q : QLeaf) : ∀ u ∈ leafV im q, u.oneCell' = true := by
  intro u hu
  simp only [leafV, List.mem_cons, List.not_mem_nil, or_false] at hu
  rcases hu with rfl | rfl | rfl | rfl | rfl <;> (cases im <;> rfl)
theorem leaf_ones (im : Bool) (l : List QLeaf) : ∀ u ∈ leafCells im l, u.oneCell' = true := by
  intro u hu
  obtain ⟨q, _, h⟩ := List.mem_flatMap.1 hu
  exact leaf_one im q u h
/-- A slice of leaves of the call's own, from block B on; T: their type. -/
def OwnLeaves (im : Bool) (T : TypeId) (B : Nat) (w : World) (v : Value) (l : List QLeaf) : Prop :=
  ∃ p c, v = .slice p l.length c ∧ w.ownsRow B T 5 v l.length (leafCells im l)
section
variable {im : Bool} {T : TypeId}
theorem OwnLeaves.bl {B : Nat} {w w' : World} {v : Value} {l : List QLeaf} (h : OwnLeaves im T B w v l) (hb : Below w.heap.size w w') : OwnLeaves im T B w' v l := by
  obtain ⟨p, c, hv, ho⟩ := h
  exact ⟨p, c, hv, own_below ho hb (Nat.le_refl _)⟩
theorem OwnLeaves.mono {B B' : Nat} {w : World} {v : Value} {l : List QLeaf} (h : OwnLeaves im T B w v l) (hb : B' ≤ B) : OwnLeaves im T B' w v l := by
  obtain ⟨p, c, hv, ho⟩ := h
  exact ⟨p, c, hv, own_mono ho hb⟩
theorem OwnLeaves.nil (B : Nat) (w : World) : OwnLeaves im T B w (.slice none 0 0) [] := ⟨none, 0, rfl, World.ownsRow_nil _ _ _ _⟩
theorem OwnLeaves.form {B : Nat} {w : World} {v : Value} {l : List QLeaf} (h : OwnLeaves im T B w v l) : ∃ p c, v = .slice p l.length c := by
  obtain ⟨p, c, hv, _⟩ := h
  exact ⟨p, c, hv⟩
theorem OwnLeaves.own {B : Nat} {w : World} {p : Option Addr} {n c : Nat} {l : List QLeaf} (h : OwnLeaves im T B w (.slice p n c) l) : n = l.length ∧ w.ownsRow B T 5 (.slice p n c) l.length (leafCells im l) := by
  obtain ⟨p', c', hv, ho⟩ := h
  simp only [Value.slice.injEq] at hv
  obtain ⟨rfl, rfl, rfl⟩ := hv
  exact ⟨rfl, ho⟩
theorem OwnLeaves.ge {B : Nat} {w : World} {v : Value} {l : List QLeaf} (h : OwnLeaves im T B w v l) : ∀ k, v.ownBlock = some k → B ≤ k ∧ k < w.heap.size := by
  obtain ⟨p, c, hv, ho⟩ := h
  exact ho.lt
theorem OwnLeaves.rd {B : Nat} {w : World} {p : Option Addr} {n c : Nat} {l : List QLeaf} (h : OwnLeaves im T B w (.slice p n c) l) : Rd w p (l.length * 5) (leafAt im l) := by
  obtain ⟨_, ho⟩ := h.own
  have := Rd.of_own ho (leafCells_at im l)
  rwa [leafCells_len] at this
theorem OwnLeaves.grown {B : Nat} {w w' : World} {v : Value} {l : List QLeaf} (h : OwnLeaves im T B w v l) {r : Option Nat} (hg : w.grownBy w' r) (hr : ∀ k, v.ownBlock = some k → some k ≠ r) : OwnLeaves im T B w' v l := by
  obtain ⟨p, c, hv, ho⟩ := h
  refine ⟨p, c, hv, ho.kept hg ?_⟩
  cases hk : v.ownBlock with
  | none => exact .inl rfl
  | some k => exact .inr (hr k hk)
/-- Where some leaves lie: a block of which they are the first cells. -/
theorem OwnLeaves.at {B : Nat} {w : World} {v : Value} {l : List QLeaf} (h : OwnLeaves im T B w v l) (hl : 0 < l.length) : ∃ g c, v = .slice (some ⟨g, 0, none⟩) l.length c ∧ B ≤ g ∧ g < w.heap.size ∧ ∀ j u, (leafCells im l)[j]? = some u → w.cell? ((⟨g, 0, none⟩ : Addr).add j) = some u := by
  obtain ⟨p, c, rfl, ho⟩ := h
  rcases ho.2 with ⟨_, h0⟩ | ⟨g, cap, cur, hv, hb, hg, _⟩
  · omega
  · simp only [Value.slice.injEq] at hv
    obtain ⟨rfl, _, rfl⟩ := hv
    exact ⟨g, c, rfl, hb, (Array.getElem?_eq_some_iff.1 hg).1, ho.cells rfl⟩
/-- One leaf in a new block. -/
theorem OwnLeaves.one {w : World} (q : QLeaf) : OwnLeaves im T w.heap.size (w.alloc (.cells (leafV im q).toArray T)) (.slice (some ⟨w.heap.size, 0, none⟩) 1 1) [q] :=
  ⟨_, _, rfl, rfl, .inr ⟨w.heap.size, 1, (leafV im q).toArray, rfl, Nat.le_refl _, heap_alloc_new w _, Nat.le_refl _, by simp [maxLen], rfl, by simp [leafCells, leafV]⟩⟩
end
theorem info_leaf : (Try.prog.info? 83).map (fun i => (i.zero, i.size, i.bytes)) = some (some (.agg #[.int .i64 0, .int .i64 0, .int .i64 0, .bool false, .string ByteArray.empty]), 5, 48) := by kernel_rfl
theorem info_sleaf : (Try.prog.info? 79).map (fun i => (i.zero, i.size, i.bytes)) = some (some (.agg #[.int .i64 0, .int .i64 0, .int .i64 0, .int .i64 0, .string ByteArray.empty]), 5, 48) := by kernel_rfl
end Go.Proofs.Ytnenogpagkepfaa
