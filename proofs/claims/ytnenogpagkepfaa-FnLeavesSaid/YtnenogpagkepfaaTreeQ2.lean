/- Plain law: what is asked of the leaves of a tree; how a leaf's cells read. -/
import Derived.Test.YtnenogpagkepfaaTreeTie
set_option linter.unusedVariables false
set_option linter.unusedSimpArgs false
namespace Go.Proofs.Ytnenogpagkepfaa
open Go.RowKit

theorem leaf_cells {im : Bool} {w : World} {p : Option Addr} {l : List QLeaf} (R : Rd w p (l.length * 5) (leafAt im l)) {i : Nat} (hi : i < l.length) : ∃ b o, p = some ⟨b, o, none⟩ ∧ b < w.heap.size ∧
    w.cell? ⟨b, o + i * 5, none⟩ = some (.int .i64 (l.getD i noLeaf).x) ∧ w.cell? ⟨b, o + i * 5 + 1, none⟩ = some (.int .i64 (l.getD i noLeaf).y) ∧ w.cell? ⟨b, o + i * 5 + 2, none⟩ = some (.int .i64 (l.getD i noLeaf).side) ∧
    w.cell? ⟨b, o + i * 5 + 3, none⟩ = some (if im then .bool (l.getD i noLeaf).black else .int .i64 (if (l.getD i noLeaf).black then 1 else 0)) ∧ w.cell? ⟨b, o + i * 5 + 4, none⟩ = some (.string (l.getD i noLeaf).addr) := by
  obtain ⟨b, o, hp, hb, hc⟩ := R.at (k := i * 5) (by omega)
  have a0 := hc (i * 5) (by omega)
  have a1 := hc (i * 5 + 1) (by omega)
  have a2 := hc (i * 5 + 2) (by omega)
  have a3 := hc (i * 5 + 3) (by omega)
  have a4 := hc (i * 5 + 4) (by omega)
  simp only [← Nat.add_assoc] at a1 a2 a3 a4
  have d0 : i * 5 / 5 = i := by omega
  have d1 : (i * 5 + 1) / 5 = i := by omega
  have d2 : (i * 5 + 2) / 5 = i := by omega
  have d3 : (i * 5 + 3) / 5 = i := by omega
  have d4 : (i * 5 + 4) / 5 = i := by omega
  have m0 : i * 5 % 5 = 0 := by omega
  have m1 : (i * 5 + 1) % 5 = 1 := by omega
  have m2 : (i * 5 + 2) % 5 = 2 := by omega
  have m3 : (i * 5 + 3) % 5 = 3 := by omega
  have m4 : (i * 5 + 4) % 5 = 4 := by omega
  rw [leafAt, d0, m0] at a0
  rw [leafAt, d1, m1] at a1
  rw [leafAt, d2, m2] at a2
  rw [leafAt, d3, m3] at a3
  rw [leafAt, d4, m4] at a4
  exact ⟨b, o, hp, hb, a0, a1, a2, a3, a4⟩
/-- Has the leaf the pixel (x, y)? -/
def inLeaf (x y : Int) (q : QLeaf) : Bool := inB x q.x ((q.x : Int) + q.side - 1) && inB y q.y ((q.y : Int) + q.side - 1)
def laN (n : Int) (s : ByteArray) (x y : Int) : Nat := (treeLv n s).findIdx (inLeaf x y)
def laOk (n : Int) (s : ByteArray) (x y : Int) : Bool := treeV n s && decide (laN n s x y < (treeLv n s).length)
def laI (n : Int) (s : ByteArray) (x y : Int) : Int := if laOk n s x y then laN n s x y else 0
theorem findIdx_hit {p : QLeaf → Bool} : ∀ {l : List QLeaf} {i : Nat}, i < l.length → (∀ j, j < i → p (l.getD j noLeaf) = false) → p (l.getD i noLeaf) = true → l.findIdx p = i := by
  intro l
  induction l with
  | nil => intro i h; simp at h
  | cons a l ih =>
    intro i hi hb hp
    cases i with
    | zero => simp only [List.getD_cons_zero] at hp; simp [List.findIdx_cons, hp]
    | succ i =>
      have h0 := hb 0 (by omega)
      simp only [List.getD_cons_zero] at h0
      have := ih (i := i) (by simp at hi; omega) (fun j hj => by have := hb (j + 1) (by omega); simpa using this) (by simpa using hp)
      simp [List.findIdx_cons, h0, this]
theorem findIdx_miss {p : QLeaf → Bool} : ∀ {l : List QLeaf}, (∀ j, j < l.length → p (l.getD j noLeaf) = false) → l.findIdx p = l.length := by
  intro l
  induction l with
  | nil => intro _; rfl
  | cons a l ih =>
    intro hb
    have h0 := hb 0 (by simp)
    simp only [List.getD_cons_zero] at h0
    have := ih (fun j hj => by have := hb (j + 1) (by simp; omega); simpa using this)
    simp [List.findIdx_cons, h0, this]
theorem laOk_no {n : Int} {s : ByteArray} {x y : Int} (h : treeV n s = false) : laOk n s x y = false ∧ laI n s x y = 0 := by
  have : laOk n s x y = false := by rw [laOk, h]; rfl
  exact ⟨this, by rw [laI, this]; rfl⟩
theorem laOk_miss {n : Int} {s : ByteArray} {x y : Int} (hb : ∀ j, j < (treeLv n s).length → inLeaf x y ((treeLv n s).getD j noLeaf) = false) : laOk n s x y = false ∧ laI n s x y = 0 := by
  have h1 : laN n s x y = (treeLv n s).length := findIdx_miss hb
  have : laOk n s x y = false := by rw [laOk, h1]; simp
  exact ⟨this, by rw [laI, this]; rfl⟩
theorem laOk_hit {n : Int} {s : ByteArray} {x y : Int} {i : Nat} (h : treeV n s = true) (hi : i < (treeLv n s).length) (hb : ∀ j, j < i → inLeaf x y ((treeLv n s).getD j noLeaf) = false) (hp : inLeaf x y ((treeLv n s).getD i noLeaf) = true) : laOk n s x y = true ∧ laI n s x y = i := by
  have h1 : laN n s x y = i := findIdx_hit hi hb hp
  have : laOk n s x y = true := by rw [laOk, h, h1]; simpa using hi
  exact ⟨this, by rw [laI, this, h1]; rfl⟩
/-- The address of leaf k. -/
def aoOk (n : Int) (s : ByteArray) (k : Int) : Bool := treeV n s && inB k 0 (((treeLv n s).length : Int) - 1)
def aoS (n : Int) (s : ByteArray) (k : Int) : ByteArray := if aoOk n s k then ((treeLv n s).getD k.toNat noLeaf).addr else ByteArray.empty
theorem ao_no {n : Int} {s : ByteArray} {k : Int} (h : treeV n s = false) : aoOk n s k = false := by rw [aoOk, h]; rfl
theorem ao_out {n : Int} {s : ByteArray} {k : Int} (h : inB k 0 (((treeLv n s).length : Int) - 1) = false) : aoOk n s k = false := by rw [aoOk, h, Bool.and_false]
theorem ao_yes {n : Int} {s : ByteArray} {k : Int} (h : treeV n s = true) (h2 : inB k 0 (((treeLv n s).length : Int) - 1) = true) : aoOk n s k = true := by rw [aoOk, h, h2]; rfl
theorem aoS_no {n : Int} {s : ByteArray} {k : Int} (h : aoOk n s k = false) : aoS n s k = ByteArray.empty := by rw [aoS, h]; rfl
/-- The leaves as lists of numbers. -/
def leafRow (q : QLeaf) : List Int := [(q.x : Int), q.y, q.side, if q.black then 1 else 0]
def lvL (n : Int) (s : ByteArray) : List (List Int) := if treeV n s then (treeLv n s).map leafRow else []
/-- Have two leaves pixels next to one another? -/
def touchB (a b : QLeaf) : Bool :=
  (a.x + a.side == b.x || b.x + b.side == a.x) && (decide (a.y < b.y + b.side) && decide (b.y < a.y + a.side)) || (a.y + a.side == b.y || b.y + b.side == a.y) && (decide (a.x < b.x + b.side) && decide (b.x < a.x + a.side))
def touchN (l : List QLeaf) (a : QLeaf) (k : Nat) : List Int := ((List.range k).filter fun i => touchB a (l.getD i noLeaf)).map (fun i : Nat => Int.ofNat i)
theorem touchN_yes {l : List QLeaf} {a : QLeaf} {k : Nat} (h : touchB a (l.getD k noLeaf) = true) : touchN l a (k + 1) = touchN l a k ++ [(k : Int)] := by
  rw [touchN, List.range_succ, List.filter_append, List.map_append]
  simp only [List.filter_cons, List.filter_nil, h, if_true, List.map_cons, List.map_nil]
  rfl
theorem touchN_no {l : List QLeaf} {a : QLeaf} {k : Nat} (h : touchB a (l.getD k noLeaf) = false) : touchN l a (k + 1) = touchN l a k := by
  rw [touchN, List.range_succ, List.filter_append, List.map_append]
  simp only [List.filter_cons, List.filter_nil, h, Bool.false_eq_true, if_false, List.map_nil, List.append_nil]
  rfl
theorem touchN_len (l : List QLeaf) (a : QLeaf) (k : Nat) : (touchN l a k).length ≤ k := by
  have h1 := List.length_filter_le (fun i => touchB a (l.getD i noLeaf)) (List.range k)
  rw [List.length_range] at h1
  rw [touchN, List.length_map]
  exact h1
def tlL (n : Int) (s : ByteArray) (k : Int) : List Int := if aoOk n s k then touchN (treeLv n s) ((treeLv n s).getD k.toNat noLeaf) (treeLv n s).length else []
end Go.Proofs.Ytnenogpagkepfaa
