/- The program's reading of trees: the plain law. -/
import Derived.Test.YtnenogpagkepfaaTreeI1
import Derived.Test.YtnenogpagkepfaaTreeS2
import Derived.Test.YtnenogpagkepfaaLeafKit
set_option linter.unusedVariables false
set_option linter.unusedSimpArgs false
namespace Go.Proofs.Ytnenogpagkepfaa
open Go.RowKit

/-- Reading a tree in which no square of one colour is divided. -/
def rC (t : ByteArray) (k n : Nat) : Option (QT × Nat) := match pAt t k n with
  | none => none
  | some (T, m) => if T.canon = true then some (T, m) else none
theorem rC_none {t : ByteArray} {k n : Nat} (h : pAt t k n = none) : rC t k n = none := by rw [rC, h]
theorem rC_some {t : ByteArray} {k n : Nat} {T : QT} {m : Nat} : rC t k n = some (T, m) ↔ pAt t k n = some (T, m) ∧ T.canon = true := by
  unfold rC
  cases h : pAt t k n with
  | none => simp
  | some q =>
    obtain ⟨U, p⟩ := q
    simp only
    by_cases hc : U.canon = true
    · rw [if_pos hc]
      constructor
      · intro e; cases e; exact ⟨rfl, hc⟩
      · rintro ⟨e, _⟩; exact e
    · rw [if_neg hc]
      constructor
      · intro e; cases e
      · rintro ⟨e, h2⟩; cases e; exact absurd h2 hc
theorem rC_leaf {t : ByteArray} {k n : Nat} (h : n < t.size) (b : Bool) (hc : t[n] = colB b) : rC t k n = some (.leaf b, n + 1) := rC_some.2 ⟨pAt_leaf h b hc, rfl⟩
theorem rC_bd {t : ByteArray} {k n : Nat} {T : QT} {m : Nat} (h : rC t k n = some (T, m)) : n < m ∧ m ≤ t.size ∧ T.deep k = true := by
  obtain ⟨h1, _⟩ := rC_some.1 h
  obtain ⟨a1, a2, a3⟩ := pAt_print t k n T m h1
  have h2 := print_pos T
  refine ⟨by omega, ?_, a1⟩
  have h4 := a2 (T.print.length - 1) (by omega)
  obtain ⟨h5, _⟩ := Array.getElem?_eq_some_iff.1 h4
  have : t.data.size = t.size := rfl
  omega
/-- Reading i trees, one behind the other. -/
def rcN (t : ByteArray) (k : Nat) : Nat → Nat → Option (List QT × Nat)
  | 0, n => some ([], n)
  | i + 1, n => match rcN t k i n with
    | none => none
    | some (l, m) => match rC t k m with
      | none => none
      | some (T, p) => some (l ++ [T], p)
theorem rcN_succ {t : ByteArray} {k i n : Nat} {l : List QT} {m : Nat} {T : QT} {p : Nat} (h : rcN t k i n = some (l, m)) (h2 : rC t k m = some (T, p)) : rcN t k (i + 1) n = some (l ++ [T], p) := by
  rw [rcN, h]; simp only [h2]
theorem rcN_stop {t : ByteArray} {k i n : Nat} {l : List QT} {m : Nat} (h : rcN t k i n = some (l, m)) (h2 : rC t k m = none) : rcN t k (i + 1) n = none := by
  rw [rcN, h]; simp only [h2]
theorem rcN_mono {t : ByteArray} {k i n : Nat} (h : rcN t k i n = none) : rcN t k (i + 1) n = none := by rw [rcN, h]
theorem rcN_up {t : ByteArray} {k n : Nat} (i j : Nat) (h : rcN t k i n = none) (hij : i ≤ j) : rcN t k j n = none := by
  induction j with
  | zero =>
    obtain rfl : i = 0 := by omega
    exact h
  | succ j ih =>
    by_cases e : i = j + 1
    · subst e; exact h
    · exact rcN_mono (ih (by omega))
theorem rcN_len {t : ByteArray} {k : Nat} : ∀ (i n : Nat) (l : List QT) (m : Nat), rcN t k i n = some (l, m) → l.length = i ∧ n ≤ m ∧ (m ≤ t.size ∨ i = 0) := by
  intro i
  induction i with
  | zero => intro n l m h; simp [rcN] at h; obtain ⟨rfl, rfl⟩ := h; exact ⟨rfl, Nat.le_refl _, .inr rfl⟩
  | succ i ih =>
    intro n l m h
    rw [rcN] at h
    cases h0 : rcN t k i n with
    | none => rw [h0] at h; cases h
    | some q =>
      obtain ⟨l0, m0⟩ := q
      rw [h0] at h
      simp only at h
      cases h1 : rC t k m0 with
      | none => rw [h1] at h; cases h
      | some q1 =>
        obtain ⟨T, p⟩ := q1
        rw [h1] at h
        simp only [Option.some.injEq, Prod.mk.injEq] at h
        obtain ⟨rfl, rfl⟩ := h
        have := ih n l0 m0 h0
        have h2 := rC_bd h1
        refine ⟨by simp [this.1], by omega, .inl h2.2.1⟩
theorem rcN_deep {t : ByteArray} {k : Nat} : ∀ (i n : Nat) (l : List QT) (m : Nat), rcN t k i n = some (l, m) → ∀ T ∈ l, T.deep k = true := by
  intro i
  induction i with
  | zero => intro n l m h; simp [rcN] at h; obtain ⟨rfl, rfl⟩ := h; intro T hT; cases hT
  | succ i ih =>
    intro n l m h
    rw [rcN] at h
    cases h0 : rcN t k i n with
    | none => rw [h0] at h; cases h
    | some q =>
      obtain ⟨l0, m0⟩ := q
      rw [h0] at h
      simp only at h
      cases h1 : rC t k m0 with
      | none => rw [h1] at h; cases h
      | some q1 =>
        obtain ⟨T, p⟩ := q1
        rw [h1] at h
        simp only [Option.some.injEq, Prod.mk.injEq] at h
        obtain ⟨rfl, rfl⟩ := h
        intro U hU
        rcases List.mem_append.1 hU with hU | hU
        · exact ih n l0 m0 h0 U hU
        · simp only [List.mem_singleton] at hU
          subst hU
          exact (rC_bd h1).2.2
theorem rcN_four {t : ByteArray} {k n : Nat} {l : List QT} {m : Nat} (h : rcN t k 4 n = some (l, m)) : ∃ a b c d m0 m1 m2, l = [a, b, c, d] ∧ rC t k n = some (a, m0) ∧ rC t k m0 = some (b, m1) ∧ rC t k m1 = some (c, m2) ∧ rC t k m2 = some (d, m) := by
  simp only [rcN] at h
  cases h0 : rC t k n with
  | none => rw [h0] at h; cases h
  | some q0 =>
    obtain ⟨a, m0⟩ := q0
    rw [h0] at h
    simp only at h
    cases h1 : rC t k m0 with
    | none => rw [h1] at h; cases h
    | some q1 =>
      obtain ⟨b, m1⟩ := q1
      rw [h1] at h
      simp only at h
      cases h2 : rC t k m1 with
      | none => rw [h2] at h; cases h
      | some q2 =>
        obtain ⟨c, m2⟩ := q2
        rw [h2] at h
        simp only at h
        cases h3 : rC t k m2 with
        | none => rw [h3] at h; cases h
        | some q3 =>
          obtain ⟨d, m3⟩ := q3
          rw [h3] at h
          simp only [List.nil_append, Option.some.injEq, Prod.mk.injEq] at h
          obtain ⟨rfl, rfl⟩ := h
          exact ⟨a, b, c, d, m0, m1, m2, rfl, rfl, h1, h2, h3⟩
theorem pAt_node {t : ByteArray} {k n : Nat} {T : QT} {p : Nat} (hn : n < t.size) (hc : t[n] = 40) (h : pAt t (k + 1) n = some (T, p)) :
    ∃ a b c d m0 m1 m2 m3, T = .node a b c d ∧ pAt t k (n + 1) = some (a, m0) ∧ pAt t k m0 = some (b, m1) ∧ pAt t k m1 = some (c, m2) ∧ pAt t k m2 = some (d, m3) ∧ t.data[m3]? = some 41 ∧ p = m3 + 1 := by
  have e : t.data[n]? = some 40 := by rw [← hc]; exact Array.getElem?_eq_getElem hn
  rw [pAt, e] at h
  simp only [show (40 : UInt8) ≠ 35 by decide, show (40 : UInt8) ≠ 46 by decide, if_false, if_true] at h
  cases h0 : pAt t k (n + 1) with
  | none => rw [h0] at h; cases h
  | some q0 =>
    obtain ⟨a, m0⟩ := q0
    rw [h0] at h
    simp only at h
    cases h1 : pAt t k m0 with
    | none => rw [h1] at h; cases h
    | some q1 =>
      obtain ⟨b, m1⟩ := q1
      rw [h1] at h
      simp only at h
      cases h2 : pAt t k m1 with
      | none => rw [h2] at h; cases h
      | some q2 =>
        obtain ⟨c, m2⟩ := q2
        rw [h2] at h
        simp only at h
        cases h3 : pAt t k m2 with
        | none => rw [h3] at h; cases h
        | some q3 =>
          obtain ⟨d, m3⟩ := q3
          rw [h3] at h
          simp only at h
          cases h4 : t.data[m3]? with
          | none => rw [h4] at h; cases h
          | some c4 =>
            rw [h4] at h
            simp only at h
            by_cases h5 : c4 = 41
            · rw [if_pos h5] at h
              simp only [Option.some.injEq, Prod.mk.injEq] at h
              obtain ⟨rfl, rfl⟩ := h
              exact ⟨a, b, c, d, m0, m1, m2, m3, rfl, rfl, h1, h2, h3, by rw [h4, h5], rfl⟩
            · rw [if_neg h5] at h; cases h
theorem rC_node_some {t : ByteArray} {k n : Nat} {T : QT} {p : Nat} (hn : n < t.size) (hc : t[n] = 40) (h : rC t (k + 1) n = some (T, p)) :
    ∃ a b c d m, T = .node a b c d ∧ rcN t k 4 (n + 1) = some ([a, b, c, d], m) ∧ t.data[m]? = some 41 ∧ p = m + 1 ∧ four a b c d = false := by
  obtain ⟨h1, h2⟩ := rC_some.1 h
  obtain ⟨a, b, c, d, m0, m1, m2, m3, rfl, p0, p1, p2, p3, p4, rfl⟩ := pAt_node hn hc h1
  simp only [QT.canon, Bool.and_eq_true, Bool.not_eq_true'] at h2
  obtain ⟨⟨⟨⟨c0, c1⟩, c2⟩, c3⟩, c4⟩ := h2
  refine ⟨a, b, c, d, m3, rfl, ?_, p4, rfl, c4⟩
  simp only [rcN, rC_some.2 ⟨p0, c0⟩, rC_some.2 ⟨p1, c1⟩, rC_some.2 ⟨p2, c2⟩, rC_some.2 ⟨p3, c3⟩, List.nil_append, List.cons_append]
/-- One of the squares inside is none. -/
theorem rC_node_no {t : ByteArray} {k n i : Nat} (hn : n < t.size) (hc : t[n] = 40) (h : rcN t k i (n + 1) = none) (hi : i ≤ 4) : rC t (k + 1) n = none := by
  cases e : rC t (k + 1) n with
  | none => rfl
  | some q =>
    obtain ⟨T, p⟩ := q
    obtain ⟨a, b, c, d, m, _, h4, _⟩ := rC_node_some hn hc e
    rw [rcN_up i 4 h hi] at h4
    cases h4
theorem rC_node_no2 {t : ByteArray} {k n : Nat} {a b c d : QT} {m : Nat} (hn : n < t.size) (hc : t[n] = 40) (h : rcN t k 4 (n + 1) = some ([a, b, c, d], m)) (h2 : t.data[m]? ≠ some 41 ∨ four a b c d = true) : rC t (k + 1) n = none := by
  cases e : rC t (k + 1) n with
  | none => rfl
  | some q =>
    obtain ⟨T, p⟩ := q
    obtain ⟨a', b', c', d', m', _, h4, h5, _, h6⟩ := rC_node_some hn hc e
    rw [h] at h4
    simp only [Option.some.injEq, Prod.mk.injEq, List.cons.injEq, and_true] at h4
    obtain ⟨⟨rfl, rfl, rfl, rfl⟩, rfl⟩ := h4
    rcases h2 with h2 | h2
    · exact absurd h5 h2
    · rw [h2] at h6; cases h6
theorem rC_node_yes {t : ByteArray} {k n : Nat} {a b c d : QT} {m : Nat} (hn : n < t.size) (hc : t[n] = 40) (h : rcN t k 4 (n + 1) = some ([a, b, c, d], m)) (h2 : t.data[m]? = some 41) (h3 : four a b c d = false) : rC t (k + 1) n = some (.node a b c d, m + 1) := by
  obtain ⟨a', b', c', d', m0, m1, m2, hl, r0, r1, r2, r3⟩ := rcN_four h
  simp only [List.cons.injEq, and_true] at hl
  obtain ⟨rfl, rfl, rfl, rfl⟩ := hl
  obtain ⟨p0, c0⟩ := rC_some.1 r0
  obtain ⟨p1, c1⟩ := rC_some.1 r1
  obtain ⟨p2, c2⟩ := rC_some.1 r2
  obtain ⟨p3, c3⟩ := rC_some.1 r3
  refine rC_some.2 ⟨?_, by simp [QT.canon, c0, c1, c2, c3, h3]⟩
  have e : t.data[n]? = some 40 := by rw [← hc]; exact Array.getElem?_eq_getElem hn
  rw [pAt, e]
  simp only [show (40 : UInt8) ≠ 35 by decide, show (40 : UInt8) ≠ 46 by decide, if_false, if_true, p0, p1, p2, p3, h2]

theorem print_one {T : QT} (h : T.print.length = 1) : ∃ b, T = .leaf b := by
  cases T with
  | leaf b => exact ⟨b, rfl⟩
  | node a b c d => simp [QT.print] at h
/-- The bytes from a place on, so many of them, are these. -/
theorem extract_has {t : ByteArray} {n : Nat} {l : List UInt8} (h : hasAt t n l) (hl : n + l.length ≤ t.size) : t.extract n (n + l.length) = bytesOf l := by
  refine hasAt_whole (fun i hi => ?_) ?_
  · have := h i hi
    rw [Nat.zero_add, ByteArray.data_extract, Array.getElem?_extract]
    have hs : t.data.size = t.size := rfl
    rw [if_pos (by omega)]
    exact this
  · rw [ByteArray.size_extract]; omega
theorem whole_is {t : ByteArray} {k n : Nat} {a b c d : QT} {m : Nat} (hn : n < t.size) (hc : t[n] = 40) (h : rcN t k 4 (n + 1) = some ([a, b, c, d], m)) : t.extract n m = bytesOf (40 :: (a.print ++ b.print ++ c.print ++ d.print)) := by
  obtain ⟨a', b', c', d', m0, m1, m2, hl, r0, r1, r2, r3⟩ := rcN_four h
  simp only [List.cons.injEq, and_true] at hl
  obtain ⟨rfl, rfl, rfl, rfl⟩ := hl
  have hm := (rC_bd r3).2.1
  obtain ⟨_, q0, e0⟩ := pAt_print t k _ _ _ (rC_some.1 r0).1
  obtain ⟨_, q1, e1⟩ := pAt_print t k _ _ _ (rC_some.1 r1).1
  obtain ⟨_, q2, e2⟩ := pAt_print t k _ _ _ (rC_some.1 r2).1
  obtain ⟨_, q3, e3⟩ := pAt_print t k _ _ _ (rC_some.1 r3).1
  have e : t.data[n]? = some 40 := by rw [← hc]; exact Array.getElem?_eq_getElem hn
  have hh : hasAt t n (40 :: (a.print ++ b.print ++ c.print ++ d.print)) := by
    rw [hasAt_cons]
    refine ⟨e, ?_⟩
    rw [hasAt_append, hasAt_append, hasAt_append]
    refine ⟨⟨⟨q0, ?_⟩, ?_⟩, ?_⟩
    · rw [← e0]; exact q1
    · rw [List.length_append, ← Nat.add_assoc, ← e0, ← e1]; exact q2
    · rw [List.length_append, List.length_append, ← Nat.add_assoc, ← Nat.add_assoc, ← e0, ← e1, ← e2]; exact q3
  have hlen : n + (40 :: (a.print ++ b.print ++ c.print ++ d.print)).length = m := by
    simp only [List.length_cons, List.length_append]; omega
  have := extract_has hh (by omega)
  rw [hlen] at this
  exact this
theorem bytesOf_inj {l m : List UInt8} (h : bytesOf l = bytesOf m) : l = m := by
  have := congrArg (fun b : ByteArray => b.data.toList) h
  simpa [bytesOf] using this
theorem whole_four {a b c d : QT} : four a b c d = (decide (bytesOf (40 :: (a.print ++ b.print ++ c.print ++ d.print)) = bytesOf [40, 35, 35, 35, 35]) || decide (bytesOf (40 :: (a.print ++ b.print ++ c.print ++ d.print)) = bytesOf [40, 46, 46, 46, 46])) := by
  rw [Bool.eq_iff_iff, four_iff]
  simp only [Bool.or_eq_true, decide_eq_true_eq]
  constructor
  · rintro ⟨p, rfl, rfl, rfl, rfl⟩
    cases p
    · exact .inr rfl
    · exact .inl rfl
  · intro h
    have key : ∀ p : Bool, bytesOf (40 :: (a.print ++ b.print ++ c.print ++ d.print)) = bytesOf (40 :: [colB p, colB p, colB p, colB p]) → ∃ p, a = .leaf p ∧ b = .leaf p ∧ c = .leaf p ∧ d = .leaf p := by
      intro p h
      have h1 := bytesOf_inj h
      simp only [List.cons.injEq, true_and] at h1
      have hl := congrArg List.length h1
      simp only [List.length_append, List.length_cons, List.length_nil] at hl
      have pa := print_pos a
      have pb := print_pos b
      have pc := print_pos c
      have pd := print_pos d
      obtain ⟨b0, rfl⟩ := print_one (show a.print.length = 1 by omega)
      obtain ⟨b1, rfl⟩ := print_one (show b.print.length = 1 by omega)
      obtain ⟨b2, rfl⟩ := print_one (show c.print.length = 1 by omega)
      obtain ⟨b3, rfl⟩ := print_one (show d.print.length = 1 by omega)
      have hcol : ∀ u v : Bool, colB u = colB v → u = v := by decide
      simp only [QT.print, List.cons_append, List.nil_append, List.cons.injEq, and_true] at h1
      exact ⟨p, by rw [hcol _ _ h1.1], by rw [hcol _ _ h1.2.1], by rw [hcol _ _ h1.2.2.1], by rw [hcol _ _ h1.2.2.2]⟩
    rcases h with h | h
    · exact key true h
    · exact key false h

/-- The leaves of some of the four quarters of a square. -/
def lvN (k x y : Nat) (p : ByteArray) (l : List QT) : List QLeaf := (List.range l.length).flatMap fun j => (l.getD j (.leaf false)).leaves k (x + (j % 2) * 2 ^ k) (y + (j / 2) * 2 ^ k) (p ++ addrB (48 + UInt8.ofNat j))
theorem lvN_snoc (k x y : Nat) (p : ByteArray) (l : List QT) (T : QT) : lvN k x y p (l ++ [T]) = lvN k x y p l ++ T.leaves k (x + (l.length % 2) * 2 ^ k) (y + (l.length / 2) * 2 ^ k) (p ++ addrB (48 + UInt8.ofNat l.length)) := by
  unfold lvN
  rw [List.length_append, List.length_singleton, List.range_succ, List.flatMap_append]
  congr 1
  · rw [List.flatMap_def, List.flatMap_def]
    congr 1
    refine List.map_congr_left (fun j hj => ?_)
    have hj := List.mem_range.1 hj
    rw [List.getD, List.getD, List.getElem?_append_left hj]
  · simp [List.getD]
theorem lvN_node (k x y : Nat) (p : ByteArray) (a b c d : QT) : lvN k x y p [a, b, c, d] = (QT.node a b c d).leaves (k + 1) x y p := by
  have : List.range [a, b, c, d].length = [0, 1, 2, 3] := by rfl
  unfold lvN
  rw [this]
  simp [QT.leaves, addrB]
theorem flat_len {α β : Type} (f : α → List β) (c : Nat) : ∀ l : List α, (∀ x ∈ l, (f x).length ≤ c) → (l.flatMap f).length ≤ l.length * c := by
  intro l
  induction l with
  | nil => intro _; simp
  | cons a l ih =>
    intro h
    rw [List.flatMap_cons, List.length_append, List.length_cons, Nat.add_mul, Nat.one_mul]
    have h1 := ih (fun x hx => h x (List.mem_cons_of_mem _ hx))
    have h2 := h a (by simp)
    omega
theorem lvN_len {k x y : Nat} {p : ByteArray} (l : List QT) (h : ∀ T ∈ l, T.deep k = true) : (lvN k x y p l).length ≤ l.length * 4 ^ k := by
  unfold lvN
  have := flat_len (fun j => (l.getD j (.leaf false)).leaves k (x + (j % 2) * 2 ^ k) (y + (j / 2) * 2 ^ k) (p ++ addrB (48 + UInt8.ofNat j))) (4 ^ k) (List.range l.length) (fun j hj => leaves_len k _ _ _ _ (h _ (by
    have hj := List.mem_range.1 hj
    simp [List.getD, List.getElem?_eq_getElem hj])))
  rwa [List.length_range] at this
end Go.Proofs.Ytnenogpagkepfaa
