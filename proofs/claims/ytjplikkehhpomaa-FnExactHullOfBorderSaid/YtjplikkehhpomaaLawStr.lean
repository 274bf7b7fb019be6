/- Contracts of the laws' own helpers over slices of strings: size, copy, comparison, marks. -/
import Derived.Test.YtjplikkehhpomaaMem
set_option linter.unusedVariables false
namespace Go.Proofs.Ytjplikkehhpomaa
open Go.RowKit

/-- What szStringS leaves of a bound. -/
def szL : List ByteArray → Int → Int
  | [], left => left
  | s :: ss, left => if left - s.size < 0 then -1 else szL ss (left - s.size)
def szS (ss : List ByteArray) (left : Int) : Int := if left - ss.length < 0 then -1 else szL ss (left - ss.length)

theorem szL_ok (ss : List ByteArray) : ∀ (left : Int), 0 ≤ left → 0 ≤ szL ss left → ∀ s ∈ ss, s.size ≤ left := by
  induction ss with
  | nil => intro _ _ _ s hs; cases hs
  | cons a ss ih =>
    intro left h0 h s hs
    rw [szL] at h
    by_cases e : left - a.size < 0
    · rw [if_pos e] at h; omega
    · rw [if_neg e] at h
      rcases List.mem_cons.1 hs with rfl | hs
      · omega
      · have := ih _ (by omega) h s hs; omega
theorem szS_ok {ss : List ByteArray} {left : Int} (h0 : 0 ≤ left) (h : 0 ≤ szS ss left) : ss.length ≤ left ∧ ∀ s ∈ ss, s.size ≤ left := by
  rw [szS] at h
  by_cases e : left - ss.length < 0
  · rw [if_pos e] at h; omega
  · rw [if_neg e] at h
    exact ⟨by omega, fun s hs => by have := szL_ok ss _ (by omega) h s hs; omega⟩
theorem szL_le (ss : List ByteArray) : ∀ (left : Int), 0 ≤ left → szL ss left ≤ left := by
  induction ss with
  | nil => intro left _; simp [szL]
  | cons a ss ih =>
    intro left h0
    rw [szL]
    by_cases e : left - a.size < 0
    · rw [if_pos e]; omega
    · rw [if_neg e]; have := ih (left - a.size) (by omega); omega
theorem szS_le (ss : List ByteArray) (left : Int) (h0 : 0 ≤ left) : szS ss left ≤ left := by
  rw [szS]
  by_cases e : left - ss.length < 0
  · rw [if_pos e]; omega
  · rw [if_neg e]; have := szL_le ss (left - ss.length) (by omega); omega
theorem getD_mem {ss : List ByteArray} {k : Nat} (h : k < ss.length) : ss.getD k ByteArray.empty ∈ ss := by simp [List.getD, List.getElem?_eq_getElem h]
theorem drop_getD {ss : List ByteArray} {k : Nat} (h : k < ss.length) : ss.drop k = ss.getD k ByteArray.empty :: ss.drop (k + 1) := by
  rw [List.drop_eq_getElem_cons h]; simp [List.getD, List.getElem?_eq_getElem h]


def strAt (ss : List ByteArray) (i : Nat) : Value := .string (ss.getD i ByteArray.empty)



theorem toList_ne {s t : ByteArray} (h : ¬ s = t) : (s.toList == t.toList) = false := by
  rw [beq_eq_false_iff_ne]
  intro e
  apply h
  have : s.data.toList = t.data.toList := by simpa [ByteArray.toList_eq] using e
  cases s; cases t
  simp at this
  simp [this]
theorem take_eq_succ {ss ts : List ByteArray} {k : Nat} (h : ss.take k = ts.take k) (h1 : k < ss.length) (h2 : k < ts.length) (e : ss.getD k ByteArray.empty = ts.getD k ByteArray.empty) : ss.take (k + 1) = ts.take (k + 1) := by
  rw [List.take_succ_eq_append_getElem h1, List.take_succ_eq_append_getElem h2, h]
  simp [List.getD, List.getElem?_eq_getElem h1, List.getElem?_eq_getElem h2] at e
  rw [e]
theorem take_ne (ss ts : List ByteArray) (k : Nat) (e : ss.getD k ByteArray.empty ≠ ts.getD k ByteArray.empty) : ¬ ss = ts := fun h => e (by rw [h])







/-- A slice of strings of the call's own, from block B on, below block N. -/
def OwnStrs (B : Nat) (w : World) (v : Value) (ss : List ByteArray) : Prop :=
  ∃ p c, v = .slice p ss.length c ∧ w.ownsRow B 9 1 v ss.length (ss.map Value.string)

theorem OwnStrs.below {B : Nat} {w w' : World} {v : Value} {ss : List ByteArray} (h : OwnStrs B w v ss) {B' : Nat} (hb : Below B' w w') (hB : w.heap.size ≤ B') : OwnStrs B w' v ss := by
  obtain ⟨p, c, hv, ho⟩ := h
  exact ⟨p, c, hv, own_below ho hb hB⟩
theorem OwnStrs.bl {B : Nat} {w w' : World} {v : Value} {ss : List ByteArray} (h : OwnStrs B w v ss) (hb : Below w.heap.size w w') : OwnStrs B w' v ss := h.below hb (Nat.le_refl _)
theorem OwnStrs.mono {B B' : Nat} {w : World} {v : Value} {ss : List ByteArray} (h : OwnStrs B w v ss) (hb : B' ≤ B) : OwnStrs B' w v ss := by
  obtain ⟨p, c, hv, ho⟩ := h
  exact ⟨p, c, hv, own_mono ho hb⟩
theorem OwnStrs.nil (B : Nat) (w : World) : OwnStrs B w (.slice none 0 0) [] := ⟨none, 0, rfl, World.ownsRow_nil _ _ _ _⟩
theorem OwnStrs.form {B : Nat} {w : World} {v : Value} {ss : List ByteArray} (h : OwnStrs B w v ss) : ∃ p c, v = .slice p ss.length c := by
  obtain ⟨p, c, hv, _⟩ := h
  exact ⟨p, c, hv⟩
theorem OwnStrs.ge {B : Nat} {w : World} {v : Value} {ss : List ByteArray} (h : OwnStrs B w v ss) : ∀ k, v.ownBlock = some k → B ≤ k ∧ k < w.heap.size := by
  obtain ⟨p, c, hv, ho⟩ := h
  exact ho.lt

theorem getD_eq {ss : List ByteArray} {k : Nat} (h : k < ss.length) : ss.getD k ByteArray.empty = ss[k] := by simp [List.getD, List.getElem?_eq_getElem h]
theorem strs_cells (ss : List ByteArray) : ∀ i (hi : i < (ss.map Value.string).length), (ss.map Value.string)[i] = strAt ss i := by
  intro i hi
  rw [List.length_map] at hi
  rw [List.getElem_map, strAt, getD_eq hi]
theorem OwnStrs.rd {B : Nat} {w : World} {p : Option Addr} {n c : Nat} {ss : List ByteArray} (h : OwnStrs B w (.slice p n c) ss) : Rd w p ss.length (strAt ss) := by
  obtain ⟨p', c', hv, ho⟩ := h
  simp only [Value.slice.injEq] at hv
  obtain ⟨rfl, rfl, rfl⟩ := hv
  have := Rd.of_own ho (strs_cells ss)
  rwa [List.length_map] at this
theorem OwnStrs.grown {B : Nat} {w w' : World} {v : Value} {ss : List ByteArray} (h : OwnStrs B w v ss) {r : Option Nat} (hg : w.grownBy w' r) (hr : ∀ k, v.ownBlock = some k → some k ≠ r) : OwnStrs B w' v ss := by
  obtain ⟨p, c, hv, ho⟩ := h
  refine ⟨p, c, hv, ho.kept hg ?_⟩
  cases hk : v.ownBlock with
  | none => exact .inl rfl
  | some k => exact .inr (hr k hk)
/-- An owned row of strings is a block of the call's own. -/
theorem OwnStrs.row {B : Nat} {w : World} {p : Option Addr} {n c : Nat} {ss : List ByteArray} (h : OwnStrs B w (.slice p n c) ss) : n = ss.length ∧ (ss = [] ∨ ∃ g m f, p = some ⟨g, 0, none⟩ ∧ B ≤ g ∧ g < w.heap.size ∧ ss.length ≤ m ∧ w.rowIs g 9 m f) := by
  obtain ⟨p', c', hv, ho⟩ := h
  simp only [Value.slice.injEq] at hv
  obtain ⟨rfl, rfl, rfl⟩ := hv
  refine ⟨rfl, ?_⟩
  rcases ho.2 with ⟨_, h0⟩ | ⟨g, cap, cur, hv, hb, hg, hn, hm, hs, _⟩
  · exact .inl (List.length_eq_zero_iff.1 h0)
  · simp only [Value.slice.injEq] at hv
    refine .inr ⟨g, cur.size, fun i => (cur[i]?).getD undef, hv.1, hb, (Array.getElem?_eq_some_iff.1 hg).1, by omega, cur, hg, rfl, fun i hi => by simp [hi]⟩


/-- What a law on one picture keeps from call to call: its argument in a box of its own, the argument's strings. -/
structure LawP (w wi : World) (a : Nat) (p : Option Addr) (c : Nat) (ss : List ByteArray) : Prop where
  box : wi.cell? ⟨a, 0, none⟩ = some (.slice p ss.length c)
  rd : Rd wi p ss.length (strAt ss)
  below : Below w.heap.size w wi
  lt : a < wi.heap.size

theorem LawP.start {w : World} {p : Option Addr} {c : Nat} {ss : List ByteArray} (hr : Rd w p ss.length (strAt ss)) (t : TypeId) :
    LawP w (w.alloc (.cells #[.slice p ss.length c] t)) w.heap.size p c ss :=
  ⟨by simp, hr.alloc _, (Below.refl _ _).alloc (Nat.le_refl _) _, by simp⟩
theorem LawP.step {w wi wj : World} {a : Nat} {p : Option Addr} {c : Nat} {ss : List ByteArray} (h : LawP w wi a p c ss) (hb : Below wi.heap.size wi wj) : LawP w wj a p c ss :=
  ⟨(hb.cell (p := ⟨a, 0, none⟩) h.lt).trans h.box, h.rd.below hb (Nat.le_refl _), h.below.trans (hb.mono h.below.size), Nat.lt_of_lt_of_le h.lt hb.size⟩
theorem LawP.alloc {w wi : World} {a : Nat} {p : Option Addr} {c : Nat} {ss : List ByteArray} (h : LawP w wi a p c ss) (o : Obj) : LawP w (wi.alloc o) a p c ss :=
  h.step ((Below.refl _ _).alloc (Nat.le_refl _) _)
theorem LawP.drewN {w wi : World} {a : Nat} {p : Option Addr} {c : Nat} {ss : List ByteArray} (h : LawP w wi a p c ss) (n : Nat) : LawP w (wi.drewN n) a p c ss :=
  h.step (below_drewN (Below.refl _ _) _)
end Go.Proofs.Ytjplikkehhpomaa
