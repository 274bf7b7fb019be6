/- The plain law of leaves: they divide the square, an address leads to its leaf, and touching is told by pixels. -/
import Derived.Test.YtnenogpagkepfaaTreeQ2
import Derived.Test.YtnenogpagkepfaaTreeTo
import Derived.Test.YtnenogpagkepfaaRender
set_option linter.unusedVariables false
set_option linter.unusedSimpArgs false
namespace Go.Proofs.Ytnenogpagkepfaa
open Go.RowKit

/-- Does a leaf have a pixel? -/
def QLeaf.has (q : QLeaf) (i j : Nat) : Prop := (q.x ≤ i ∧ i < q.x + q.side) ∧ q.y ≤ j ∧ j < q.y + q.side
/-- Leaves that divide a square. -/
structure Part (l : List QLeaf) (x y s : Nat) : Prop where
  inside : ∀ q ∈ l, 1 ≤ q.side ∧ (x ≤ q.x ∧ q.x + q.side ≤ x + s) ∧ (y ≤ q.y ∧ q.y + q.side ≤ y + s)
  cover : ∀ i j, (x ≤ i ∧ i < x + s) → (y ≤ j ∧ j < y + s) → ∃ q ∈ l, q.has i j
  apart : l.Pairwise fun q r => ∀ i j, q.has i j → ¬ r.has i j
theorem part_four {la lb lc ld : List QLeaf} {x y s : Nat} (ha : Part la x y s) (hb : Part lb (x + s) y s) (hc : Part lc x (y + s) s) (hd : Part ld (x + s) (y + s) s) : Part (la ++ (lb ++ (lc ++ ld))) x y (s + s) := by
  have ia := ha.inside
  have ib := hb.inside
  have ic := hc.inside
  have id := hd.inside
  refine ⟨fun q hq => ?_, fun i j hi hj => ?_, ?_⟩
  · simp only [List.mem_append] at hq
    rcases hq with h | h | h | h
    · have := ia q h; omega
    · have := ib q h; omega
    · have := ic q h; omega
    · have := id q h; omega
  · have key : ∃ q, (q ∈ la ∨ q ∈ lb ∨ q ∈ lc ∨ q ∈ ld) ∧ q.has i j := by
      by_cases h1 : i < x + s
      · by_cases h2 : j < y + s
        · obtain ⟨q, h, g⟩ := ha.cover i j (by omega) (by omega)
          exact ⟨q, .inl h, g⟩
        · obtain ⟨q, h, g⟩ := hc.cover i j (by omega) (by omega)
          exact ⟨q, .inr (.inr (.inl h)), g⟩
      · by_cases h2 : j < y + s
        · obtain ⟨q, h, g⟩ := hb.cover i j (by omega) (by omega)
          exact ⟨q, .inr (.inl h), g⟩
        · obtain ⟨q, h, g⟩ := hd.cover i j (by omega) (by omega)
          exact ⟨q, .inr (.inr (.inr h)), g⟩
    obtain ⟨q, h, g⟩ := key
    exact ⟨q, by simp only [List.mem_append]; exact h, g⟩
  · simp only [List.pairwise_append, List.mem_append]
    refine ⟨ha.apart, ⟨hb.apart, ⟨hc.apart, hd.apart, ?_⟩, ?_⟩, ?_⟩
    · intro q hq r hr i j h1 h2
      have := ic q hq
      have := id r hr
      unfold QLeaf.has at h1 h2
      omega
    · intro q hq r hr i j h1 h2
      have := ib q hq
      unfold QLeaf.has at h1 h2
      rcases hr with hr | hr
      · have := ic r hr; omega
      · have := id r hr; omega
    · intro q hq r hr i j h1 h2
      have := ia q hq
      unfold QLeaf.has at h1 h2
      rcases hr with hr | hr | hr
      · have := ib r hr; omega
      · have := ic r hr; omega
      · have := id r hr; omega
theorem leaves_part : ∀ (k : Nat) (T : QT) (x y : Nat) (p : ByteArray), T.deep k = true → Part (T.leaves k x y p) x y (2 ^ k) := by
  have one : ∀ (k : Nat) (b : Bool) (x y : Nat) (p : ByteArray), Part [⟨x, y, 2 ^ k, b, p⟩] x y (2 ^ k) := by
    intro k b x y p
    have := pow_pos2 k
    refine ⟨fun q hq => ?_, fun i j hi hj => ⟨_, List.mem_singleton.2 rfl, hi, hj⟩, List.pairwise_singleton _ _⟩
    rw [List.mem_singleton] at hq
    subst hq
    simp only
    omega
  intro k
  induction k with
  | zero =>
    intro T x y p h
    cases T with
    | leaf b => exact one 0 b x y p
    | node a b c d => simp [QT.deep] at h
  | succ k ih =>
    intro T x y p h
    cases T with
    | leaf b => exact one (k + 1) b x y p
    | node a b c d =>
      simp only [QT.deep, Bool.and_eq_true] at h
      have e : 2 ^ (k + 1) = 2 ^ k + 2 ^ k := by rw [Nat.pow_succ]; omega
      rw [e]
      exact part_four (ih a x y _ h.1.1.1) (ih b _ y _ h.1.1.2) (ih c x _ _ h.1.2) (ih d _ _ _ h.2)
/-- One step of an address: the square's place and side. -/
def adrS (t : Nat × Nat × Nat) (c : UInt8) : Nat × Nat × Nat :=
  (if c = 49 ∨ c = 51 then t.1 + t.2.2 / 2 else t.1, if c = 50 ∨ c = 51 then t.2.1 + t.2.2 / 2 else t.2.1, t.2.2 / 2)
theorem adr_app (p : ByteArray) (c : UInt8) : (p ++ addrB c).data.toList = p.data.toList ++ [c] := by
  simp [ByteArray.toList_data_append, addrB]
theorem leaves_addr : ∀ (k : Nat) (T : QT) (x y : Nat) (p : ByteArray) (t : Nat × Nat × Nat), T.deep k = true → p.data.toList.foldl adrS t = (x, y, 2 ^ k) → ∀ q ∈ T.leaves k x y p, q.addr.data.toList.foldl adrS t = (q.x, q.y, q.side) := by
  intro k
  induction k with
  | zero =>
    intro T x y p t h hp q hq
    cases T with
    | leaf b =>
      rw [QT.leaves, List.mem_singleton] at hq
      subst hq
      exact hp
    | node a b c d => simp [QT.deep] at h
  | succ k ih =>
    intro T x y p t h hp q hq
    cases T with
    | leaf b =>
      rw [QT.leaves, List.mem_singleton] at hq
      subst hq
      exact hp
    | node a b c d =>
      simp only [QT.deep, Bool.and_eq_true] at h
      have e : 2 ^ (k + 1) / 2 = 2 ^ k := by rw [Nat.pow_succ]; omega
      have hs : ∀ c : UInt8, (p ++ addrB c).data.toList.foldl adrS t = (if c = 49 ∨ c = 51 then x + 2 ^ k else x, if c = 50 ∨ c = 51 then y + 2 ^ k else y, 2 ^ k) := by
        intro c
        rw [adr_app, List.foldl_append, hp, List.foldl_cons, List.foldl_nil, adrS]
        simp only [e]
      rw [QT.leaves] at hq
      simp only [List.mem_append, Nat.add_sub_cancel] at hq
      rcases hq with hq | hq | hq | hq
      · exact ih a _ _ _ t h.1.1.1 (by rw [hs]; rfl) q hq
      · exact ih b _ _ _ t h.1.1.2 (by rw [hs]; rfl) q hq
      · exact ih c _ _ _ t h.1.2 (by rw [hs]; rfl) q hq
      · exact ih d _ _ _ t h.2 (by rw [hs]; rfl) q hq
theorem Part.one {l : List QLeaf} {x y s : Nat} (h : Part l x y s) {a b i j : Nat} (ha : a < l.length) (hb : b < l.length) (h1 : (l.getD a noLeaf).has i j) (h2 : (l.getD b noLeaf).has i j) : a = b := by
  have ed : ∀ i (h : i < l.length), l.getD i noLeaf = l[i] := fun i h => by simp [List.getD, List.getElem?_eq_getElem h]
  rw [ed a ha] at h1
  rw [ed b hb] at h2
  rcases Nat.lt_trichotomy a b with e | e | e
  · exact absurd h2 (List.pairwise_iff_getElem.1 h.apart a b ha hb e i j h1)
  · exact e
  · exact absurd h1 (List.pairwise_iff_getElem.1 h.apart b a hb ha e i j h2)
/-- Two leaves touch exactly if one has a pixel at a side of the other. -/
theorem touch_iff {q r : QLeaf} (hq : 1 ≤ q.side) (hr : 1 ≤ r.side) (hd : ∀ i j, q.has i j → ¬ r.has i j) :
    touchB r q = true ↔ ∃ i j : Int, (r.x : Int) - 1 ≤ i ∧ i ≤ r.x + r.side ∧ (r.y : Int) - 1 ≤ j ∧ j ≤ r.y + r.side ∧ 0 ≤ i ∧ 0 ≤ j ∧ q.has i.toNat j.toNat ∧ ¬ (((r.x : Int) ≤ i ∧ i < r.x + r.side) ↔ ((r.y : Int) ≤ j ∧ j < r.y + r.side)) := by
  constructor
  · intro h
    simp only [touchB, Bool.or_eq_true, Bool.and_eq_true, beq_iff_eq, decide_eq_true_eq] at h
    unfold QLeaf.has
    rcases h with ⟨h1 | h1, h2, h3⟩ | ⟨h1 | h1, h2, h3⟩
    · exact ⟨(q.x : Int), (max q.y r.y : Nat), by omega, by omega, by omega, by omega, by omega, by omega, by omega, by omega⟩
    · exact ⟨(r.x : Int) - 1, (max q.y r.y : Nat), by omega, by omega, by omega, by omega, by omega, by omega, by omega, by omega⟩
    · exact ⟨(max q.x r.x : Nat), (q.y : Int), by omega, by omega, by omega, by omega, by omega, by omega, by omega, by omega⟩
    · exact ⟨(max q.x r.x : Nat), (r.y : Int) - 1, by omega, by omega, by omega, by omega, by omega, by omega, by omega, by omega⟩
  · rintro ⟨i, j, h1, h2, h3, h4, h5, h6, h7, h8⟩
    simp only [touchB, Bool.or_eq_true, Bool.and_eq_true, beq_iff_eq, decide_eq_true_eq]
    by_cases hx : (r.x : Int) ≤ i ∧ i < r.x + r.side
    · have hy : ¬ ((r.y : Int) ≤ j ∧ j < r.y + r.side) := fun hy => h8 ⟨fun _ => hy, fun _ => hx⟩
      by_cases e : j < r.y
      · have hd2 := hd i.toNat (j.toNat + 1)
        unfold QLeaf.has at h7 hd2
        omega
      · have hd2 := hd i.toNat (j.toNat - 1)
        unfold QLeaf.has at h7 hd2
        omega
    · have hy : (r.y : Int) ≤ j ∧ j < r.y + r.side := by
        by_cases hy : (r.y : Int) ≤ j ∧ j < r.y + r.side
        · exact hy
        · exact absurd ⟨fun h => absurd h hx, fun h => absurd h hy⟩ h8
      by_cases e : i < r.x
      · have hd2 := hd (i.toNat + 1) j.toNat
        unfold QLeaf.has at h7 hd2
        omega
      · have hd2 := hd (i.toNat - 1) j.toNat
        unfold QLeaf.has at h7 hd2
        omega
theorem touch_self {r : QLeaf} (hr : 1 ≤ r.side) : touchB r r = false := by
  cases h : touchB r r
  · rfl
  · simp only [touchB, Bool.or_eq_true, Bool.and_eq_true, beq_iff_eq, decide_eq_true_eq] at h
    omega
end Go.Proofs.Ytnenogpagkepfaa
