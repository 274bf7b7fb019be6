/- Plain law of quadtrees: a tree, its text, its pixels, its leaves. No program is in sight. -/
import Derived.Test.YtnenogpagkepfaaRows
set_option linter.unusedVariables false
namespace Go.Proofs.Ytnenogpagkepfaa

/-- A square that is of one colour or divided into four. -/
inductive QT where
  | leaf (b : Bool)
  | node (a b c d : QT)
deriving DecidableEq

def colB (b : Bool) : UInt8 := if b then 35 else 46
/-- The bytes of a tree. -/
def QT.print : QT → List UInt8
  | .leaf b => [colB b]
  | .node a b c d => 40 :: (a.print ++ (b.print ++ (c.print ++ (d.print ++ [41]))))
def QT.deep : QT → Nat → Bool
  | .leaf _, _ => true
  | .node _ _ _ _, 0 => false
  | .node a b c d, k + 1 => a.deep k && b.deep k && c.deep k && d.deep k
/-- Four leaves of one colour. -/
def four (a b c d : QT) : Bool := match a, b, c, d with
  | .leaf p, .leaf q, .leaf r, .leaf s => p == q && p == r && p == s
  | _, _, _, _ => false
/-- No square that is divided has one colour. -/
def QT.canon : QT → Bool
  | .leaf _ => true
  | .node a b c d => a.canon && b.canon && c.canon && d.canon && !four a b c d
/-- The colour of the pixel (i, j) of a tree of the side 2 ^ k. -/
def QT.col : QT → Nat → Nat → Nat → Bool
  | .leaf b, _, _, _ => b
  | .node a b c d, k, i, j => if j < 2 ^ (k - 1) then (if i < 2 ^ (k - 1) then a.col (k - 1) i j else b.col (k - 1) (i - 2 ^ (k - 1)) j)
      else (if i < 2 ^ (k - 1) then c.col (k - 1) i (j - 2 ^ (k - 1)) else d.col (k - 1) (i - 2 ^ (k - 1)) (j - 2 ^ (k - 1)))

/-- Reading a tree of at most k divisions from a place on: the tree and the place behind. -/
def pAt (s : ByteArray) : Nat → Nat → Option (QT × Nat)
  | 0, n => match s.data[n]? with
    | none => none
    | some c => if c = 35 then some (.leaf true, n + 1) else if c = 46 then some (.leaf false, n + 1) else none
  | k + 1, n => match s.data[n]? with
    | none => none
    | some c => if c = 35 then some (.leaf true, n + 1) else if c = 46 then some (.leaf false, n + 1) else if c = 40 then
        match pAt s k (n + 1) with
        | none => none
        | some (t0, n0) => match pAt s k n0 with
          | none => none
          | some (t1, n1) => match pAt s k n1 with
            | none => none
            | some (t2, n2) => match pAt s k n2 with
              | none => none
              | some (t3, n3) => match s.data[n3]? with
                | none => none
                | some e => if e = 41 then some (.node t0 t1 t2 t3, n3 + 1) else none
      else none

/-- The pixels of the square with its first one at (x, y) and the side 2 ^ k have one colour. -/
def uni (k : Nat) (f : Nat → Nat → Bool) (x y : Nat) : Bool := (List.range (2 ^ k)).all fun j => (List.range (2 ^ k)).all fun i => f (x + i) (y + j) == f x y
theorem uni_iff {k : Nat} {f : Nat → Nat → Bool} {x y : Nat} : uni k f x y = true ↔ ∀ i j, i < 2 ^ k → j < 2 ^ k → f (x + i) (y + j) = f x y := by
  simp only [uni, List.all_eq_true, List.mem_range, beq_iff_eq]
  exact ⟨fun h i j hi hj => h j hj i hi, fun h j hj i hi => h i j hi hj⟩
/-- The tree of a square of pixels. -/
def qt : Nat → (Nat → Nat → Bool) → Nat → Nat → QT
  | 0, f, x, y => .leaf (f x y)
  | k + 1, f, x, y => if uni (k + 1) f x y then .leaf (f x y) else .node (qt k f x y) (qt k f (x + 2 ^ k) y) (qt k f x (y + 2 ^ k)) (qt k f (x + 2 ^ k) (y + 2 ^ k))
theorem pow_pos2 (k : Nat) : 0 < 2 ^ k := Nat.pos_of_ne_zero (by simp)
theorem uni0 (f : Nat → Nat → Bool) (x y : Nat) : uni 0 f x y = true := by
  rw [uni_iff]
  intro i j hi hj
  simp at hi hj
  subst hi hj
  rfl
/-- A tree is one leaf exactly if its square has one colour. -/
theorem qt_uni : ∀ (k : Nat) (f : Nat → Nat → Bool) (x y : Nat), qt k f x y = .leaf (f x y) ↔ uni k f x y = true := by
  intro k
  cases k with
  | zero => intro f x y; simp [qt, uni0]
  | succ k =>
    intro f x y
    rw [qt]
    by_cases h : uni (k + 1) f x y = true
    · simp [h]
    · simp [h]
theorem qt_leaf {k : Nat} {f : Nat → Nat → Bool} {x y : Nat} {b : Bool} (h : qt k f x y = .leaf b) : b = f x y ∧ uni k f x y = true := by
  cases k with
  | zero => simp [qt] at h; exact ⟨h.symm, uni0 _ _ _⟩
  | succ k =>
    rw [qt] at h
    by_cases hu : uni (k + 1) f x y = true
    · rw [if_pos hu] at h
      simp at h
      exact ⟨h.symm, hu⟩
    · rw [if_neg hu] at h
      cases h
theorem uni_split {k : Nat} {f : Nat → Nat → Bool} {x y : Nat} : uni (k + 1) f x y = true ↔
    uni k f x y = true ∧ uni k f (x + 2 ^ k) y = true ∧ uni k f x (y + 2 ^ k) = true ∧ uni k f (x + 2 ^ k) (y + 2 ^ k) = true ∧
      f x y = f (x + 2 ^ k) y ∧ f x y = f x (y + 2 ^ k) ∧ f x y = f (x + 2 ^ k) (y + 2 ^ k) := by
  have e : 2 ^ (k + 1) = 2 ^ k + 2 ^ k := by rw [Nat.pow_succ]; omega
  have hp := pow_pos2 k
  simp only [uni_iff, e]
  constructor
  · intro h
    have h1 := h (2 ^ k) 0 (by omega) (by omega)
    have h2 := h 0 (2 ^ k) (by omega) (by omega)
    have h3 := h (2 ^ k) (2 ^ k) (by omega) (by omega)
    simp only [Nat.add_zero] at h1 h2
    refine ⟨fun i j hi hj => h i j (by omega) (by omega), fun i j hi hj => ?_, fun i j hi hj => ?_, fun i j hi hj => ?_, h1.symm, h2.symm, h3.symm⟩
    · rw [h1, Nat.add_assoc]; exact h (2 ^ k + i) j (by omega) (by omega)
    · rw [h2, Nat.add_assoc]; exact h i (2 ^ k + j) (by omega) (by omega)
    · rw [h3, Nat.add_assoc, Nat.add_assoc]; exact h (2 ^ k + i) (2 ^ k + j) (by omega) (by omega)
  · rintro ⟨h0, h1, h2, h3, e1, e2, e3⟩ i j hi hj
    by_cases hi' : i < 2 ^ k
    · by_cases hj' : j < 2 ^ k
      · exact h0 i j hi' hj'
      · have := h2 i (j - 2 ^ k) hi' (by omega)
        rw [show y + 2 ^ k + (j - 2 ^ k) = y + j by omega] at this
        rw [this, e2]
    · by_cases hj' : j < 2 ^ k
      · have := h1 (i - 2 ^ k) j (by omega) hj'
        rw [show x + 2 ^ k + (i - 2 ^ k) = x + i by omega] at this
        rw [this, e1]
      · have := h3 (i - 2 ^ k) (j - 2 ^ k) (by omega) (by omega)
        rw [show x + 2 ^ k + (i - 2 ^ k) = x + i by omega, show y + 2 ^ k + (j - 2 ^ k) = y + j by omega] at this
        rw [this, e3]
theorem four_iff {a b c d : QT} : four a b c d = true ↔ ∃ p, a = .leaf p ∧ b = .leaf p ∧ c = .leaf p ∧ d = .leaf p := by
  constructor
  · intro h
    unfold four at h
    split at h
    · rename_i p q r s
      simp only [Bool.and_eq_true, beq_iff_eq] at h
      obtain ⟨⟨h1, h2⟩, h3⟩ := h
      subst h1 h2 h3
      exact ⟨p, rfl, rfl, rfl, rfl⟩
    · cases h
  · rintro ⟨p, rfl, rfl, rfl, rfl⟩
    simp [four]
theorem qt_canon : ∀ (k : Nat) (f : Nat → Nat → Bool) (x y : Nat), (qt k f x y).canon = true := by
  intro k
  induction k with
  | zero => intro f x y; rfl
  | succ k ih =>
    intro f x y
    rw [qt]
    by_cases h : uni (k + 1) f x y = true
    · rw [if_pos h]; rfl
    · rw [if_neg h]
      simp only [QT.canon, ih, Bool.true_and, Bool.not_eq_true']
      cases hf : four (qt k f x y) (qt k f (x + 2 ^ k) y) (qt k f x (y + 2 ^ k)) (qt k f (x + 2 ^ k) (y + 2 ^ k)) with
      | false => rfl
      | true =>
        exfalso
        apply h
        obtain ⟨p, h0, h1, h2, h3⟩ := four_iff.1 hf
        have g0 := qt_leaf h0
        have g1 := qt_leaf h1
        have g2 := qt_leaf h2
        have g3 := qt_leaf h3
        rw [uni_split]
        exact ⟨g0.2, g1.2, g2.2, g3.2, g0.1.symm.trans g1.1, g0.1.symm.trans g2.1, g0.1.symm.trans g3.1⟩
theorem qt_deep : ∀ (k : Nat) (f : Nat → Nat → Bool) (x y : Nat), (qt k f x y).deep k = true := by
  intro k
  induction k with
  | zero => intro f x y; rfl
  | succ k ih =>
    intro f x y
    rw [qt]
    by_cases h : uni (k + 1) f x y = true
    · rw [if_pos h]; rfl
    · rw [if_neg h]
      simp [QT.deep, ih]
theorem uni_congr {k : Nat} {f g : Nat → Nat → Bool} {x y u v : Nat} (h : ∀ i j, i < 2 ^ k → j < 2 ^ k → f (x + i) (y + j) = g (u + i) (v + j)) : uni k f x y = uni k g u v := by
  have h0 := h 0 0 (pow_pos2 k) (pow_pos2 k)
  simp only [Nat.add_zero] at h0
  rw [Bool.eq_iff_iff, uni_iff, uni_iff]
  exact ⟨fun hf i j hi hj => by rw [← h i j hi hj, ← h0]; exact hf i j hi hj, fun hf i j hi hj => by rw [h i j hi hj, h0]; exact hf i j hi hj⟩
theorem qt_congr : ∀ (k : Nat) {f g : Nat → Nat → Bool} {x y u v : Nat}, (∀ i j, i < 2 ^ k → j < 2 ^ k → f (x + i) (y + j) = g (u + i) (v + j)) → qt k f x y = qt k g u v := by
  intro k
  induction k with
  | zero =>
    intro f g x y u v h
    have := h 0 0 (by simp) (by simp)
    simp only [Nat.add_zero] at this
    simp [qt, this]
  | succ k ih =>
    intro f g x y u v h
    have e : 2 ^ (k + 1) = 2 ^ k + 2 ^ k := by rw [Nat.pow_succ]; omega
    have hp := pow_pos2 k
    have hu := uni_congr h
    have h0 := h 0 0 (by omega) (by omega)
    simp only [Nat.add_zero] at h0
    rw [qt, qt, hu, h0]
    rw [ih (f := f) (g := g) (x := x) (y := y) (u := u) (v := v) (fun i j hi hj => h i j (by omega) (by omega)),
      ih (f := f) (g := g) (x := x + 2 ^ k) (y := y) (u := u + 2 ^ k) (v := v) (fun i j hi hj => by rw [Nat.add_assoc, Nat.add_assoc]; exact h (2 ^ k + i) j (by omega) (by omega)),
      ih (f := f) (g := g) (x := x) (y := y + 2 ^ k) (u := u) (v := v + 2 ^ k) (fun i j hi hj => by rw [Nat.add_assoc y, Nat.add_assoc v]; exact h i (2 ^ k + j) (by omega) (by omega)),
      ih (f := f) (g := g) (x := x + 2 ^ k) (y := y + 2 ^ k) (u := u + 2 ^ k) (v := v + 2 ^ k) (fun i j hi hj => by rw [Nat.add_assoc x, Nat.add_assoc u, Nat.add_assoc y, Nat.add_assoc v]; exact h (2 ^ k + i) (2 ^ k + j) (by omega) (by omega))]
/-- A tree in which no square of one colour is divided is the tree of its pixels. -/
theorem qt_col : ∀ (T : QT) (k : Nat), T.canon = true → T.deep k = true → qt k (T.col k) 0 0 = T := by
  intro T
  induction T with
  | leaf b =>
    intro k _ _
    exact (qt_uni k _ 0 0).2 (uni_iff.2 fun i j _ _ => rfl)
  | node a b c d iha ihb ihc ihd =>
    intro k hc hd
    cases k with
    | zero => simp [QT.deep] at hd
    | succ k =>
      simp only [QT.canon, Bool.and_eq_true, Bool.not_eq_true'] at hc
      simp only [QT.deep, Bool.and_eq_true] at hd
      obtain ⟨⟨⟨⟨ca, cb⟩, cc⟩, cd⟩, cf⟩ := hc
      obtain ⟨⟨⟨da, db⟩, dc⟩, dd⟩ := hd
      have hp := pow_pos2 k
      have ea : qt k ((QT.node a b c d).col (k + 1)) 0 0 = a := by
        rw [← iha k ca da]
        refine (qt_congr k fun i j hi hj => ?_)
        rw [iha k ca da]
        simp only [QT.col, Nat.add_sub_cancel, Nat.zero_add, if_pos hi, if_pos hj]
      have eb : qt k ((QT.node a b c d).col (k + 1)) (0 + 2 ^ k) 0 = b := by
        rw [← ihb k cb db]
        refine (qt_congr k fun i j hi hj => ?_)
        rw [ihb k cb db]
        simp only [QT.col, Nat.add_sub_cancel, Nat.zero_add, if_pos hj, if_neg (show ¬ 2 ^ k + i < 2 ^ k by omega), Nat.add_sub_cancel_left]
      have ec : qt k ((QT.node a b c d).col (k + 1)) 0 (0 + 2 ^ k) = c := by
        rw [← ihc k cc dc]
        refine (qt_congr k fun i j hi hj => ?_)
        rw [ihc k cc dc]
        simp only [QT.col, Nat.add_sub_cancel, Nat.zero_add, if_pos hi, if_neg (show ¬ 2 ^ k + j < 2 ^ k by omega), Nat.add_sub_cancel_left]
      have ed : qt k ((QT.node a b c d).col (k + 1)) (0 + 2 ^ k) (0 + 2 ^ k) = d := by
        rw [← ihd k cd dd]
        refine (qt_congr k fun i j hi hj => ?_)
        rw [ihd k cd dd]
        simp only [QT.col, Nat.add_sub_cancel, Nat.zero_add, if_neg (show ¬ 2 ^ k + i < 2 ^ k by omega), if_neg (show ¬ 2 ^ k + j < 2 ^ k by omega), Nat.add_sub_cancel_left]
      rw [qt]
      by_cases hu : uni (k + 1) ((QT.node a b c d).col (k + 1)) 0 0 = true
      · exfalso
        obtain ⟨u0, u1, u2, u3, e1, e2, e3⟩ := uni_split.1 hu
        have l0 := (qt_uni k ((QT.node a b c d).col (k + 1)) 0 0).2 u0
        have l1 := (qt_uni k ((QT.node a b c d).col (k + 1)) (0 + 2 ^ k) 0).2 u1
        have l2 := (qt_uni k ((QT.node a b c d).col (k + 1)) 0 (0 + 2 ^ k)).2 u2
        have l3 := (qt_uni k ((QT.node a b c d).col (k + 1)) (0 + 2 ^ k) (0 + 2 ^ k)).2 u3
        rw [ea] at l0
        rw [eb, ← e1] at l1
        rw [ec, ← e2] at l2
        rw [ed, ← e3] at l3
        have : four a b c d = true := four_iff.2 ⟨_, l0, l1, l2, l3⟩
        rw [this] at cf
        cases cf
      · rw [if_neg hu, ea, eb, ec, ed]
/-- The pixels of the tree of some pixels are these. -/
theorem col_qt : ∀ (k : Nat) (f : Nat → Nat → Bool) (x y i j : Nat), i < 2 ^ k → j < 2 ^ k → (qt k f x y).col k i j = f (x + i) (y + j) := by
  intro k
  induction k with
  | zero =>
    intro f x y i j hi hj
    simp at hi hj
    subst hi hj
    rfl
  | succ k ih =>
    intro f x y i j hi hj
    have e : 2 ^ (k + 1) = 2 ^ k + 2 ^ k := by rw [Nat.pow_succ]; omega
    rw [qt]
    by_cases hu : uni (k + 1) f x y = true
    · rw [if_pos hu]
      exact (uni_iff.1 hu i j hi hj).symm
    · rw [if_neg hu]
      simp only [QT.col, Nat.add_sub_cancel]
      by_cases hj' : j < 2 ^ k
      · by_cases hi' : i < 2 ^ k
        · rw [if_pos hj', if_pos hi', ih f x y i j hi' hj']
        · rw [if_pos hj', if_neg hi', ih f _ _ _ _ (by omega) hj', show x + 2 ^ k + (i - 2 ^ k) = x + i by omega]
      · by_cases hi' : i < 2 ^ k
        · rw [if_neg hj', if_pos hi', ih f _ _ _ _ hi' (by omega), show y + 2 ^ k + (j - 2 ^ k) = y + j by omega]
        · rw [if_neg hj', if_neg hi', ih f _ _ _ _ (by omega) (by omega), show x + 2 ^ k + (i - 2 ^ k) = x + i by omega, show y + 2 ^ k + (j - 2 ^ k) = y + j by omega]

/-- The bytes of s from a place on begin with these. -/
def hasAt (s : ByteArray) (n : Nat) (l : List UInt8) : Prop := ∀ i (h : i < l.length), s.data[n + i]? = some l[i]
theorem hasAt_nil (s : ByteArray) (n : Nat) : hasAt s n [] := fun i h => absurd h (Nat.not_lt_zero _)
theorem hasAt_cons {s : ByteArray} {n : Nat} {c : UInt8} {l : List UInt8} : hasAt s n (c :: l) ↔ s.data[n]? = some c ∧ hasAt s (n + 1) l := by
  constructor
  · intro h
    refine ⟨h 0 (by simp), fun i hi => ?_⟩
    have := h (i + 1) (by simp; omega)
    rw [Nat.add_assoc, Nat.add_comm 1 i]
    simpa using this
  · rintro ⟨h0, h⟩ i hi
    cases i with
    | zero => simpa using h0
    | succ i =>
      have := h i (by simp at hi; omega)
      rw [Nat.add_assoc, Nat.add_comm 1 i] at this
      simpa using this
theorem hasAt_append {s : ByteArray} {n : Nat} {l m : List UInt8} : hasAt s n (l ++ m) ↔ hasAt s n l ∧ hasAt s (n + l.length) m := by
  induction l generalizing n with
  | nil => simp [hasAt_nil]
  | cons c l ih =>
    rw [List.cons_append, hasAt_cons, hasAt_cons, ih, and_assoc, List.length_cons, show n + 1 + l.length = n + (l.length + 1) by omega]
/-- What was read is a tree's text. -/
theorem pAt_print (s : ByteArray) : ∀ (k n : Nat) (T : QT) (p : Nat), pAt s k n = some (T, p) → T.deep k = true ∧ hasAt s n T.print ∧ p = n + T.print.length := by
  intro k
  induction k with
  | zero =>
    intro n T p h
    rw [pAt] at h
    split at h
    · cases h
    · rename_i c hc
      by_cases h1 : c = 35
      · rw [if_pos h1] at h
        cases h
        exact ⟨rfl, hasAt_cons.2 ⟨by rw [hc, h1]; rfl, hasAt_nil _ _⟩, rfl⟩
      · rw [if_neg h1] at h
        by_cases h2 : c = 46
        · rw [if_pos h2] at h
          cases h
          exact ⟨rfl, hasAt_cons.2 ⟨by rw [hc, h2]; rfl, hasAt_nil _ _⟩, rfl⟩
        · rw [if_neg h2] at h
          cases h
  | succ k ih =>
    intro n T p h
    rw [pAt] at h
    split at h
    · cases h
    · rename_i c hc
      by_cases h1 : c = 35
      · rw [if_pos h1] at h
        cases h
        exact ⟨rfl, hasAt_cons.2 ⟨by rw [hc, h1]; rfl, hasAt_nil _ _⟩, rfl⟩
      · rw [if_neg h1] at h
        by_cases h2 : c = 46
        · rw [if_pos h2] at h
          cases h
          exact ⟨rfl, hasAt_cons.2 ⟨by rw [hc, h2]; rfl, hasAt_nil _ _⟩, rfl⟩
        · rw [if_neg h2] at h
          by_cases h3 : c = 40
          · rw [if_pos h3] at h
            split at h
            · cases h
            · rename_i t0 n0 e0
              split at h
              · cases h
              · rename_i t1 n1 e1
                split at h
                · cases h
                · rename_i t2 n2 e2
                  split at h
                  · cases h
                  · rename_i t3 n3 e3
                    split at h
                    · cases h
                    · rename_i e he
                      by_cases h4 : e = 41
                      · rw [if_pos h4] at h
                        cases h
                        obtain ⟨d0, p0, rfl⟩ := ih _ _ _ e0
                        obtain ⟨d1, p1, rfl⟩ := ih _ _ _ e1
                        obtain ⟨d2, p2, rfl⟩ := ih _ _ _ e2
                        obtain ⟨d3, p3, rfl⟩ := ih _ _ _ e3
                        subst h4 h3
                        refine ⟨by simp [QT.deep, d0, d1, d2, d3], ?_, by simp [QT.print]; omega⟩
                        rw [QT.print, hasAt_cons, hasAt_append, hasAt_append, hasAt_append, hasAt_append, hasAt_cons]
                        exact ⟨hc, p0, p1, p2, p3, he, hasAt_nil _ _⟩
                      · rw [if_neg h4] at h
                        cases h
          · rw [if_neg h3] at h
            cases h
/-- A tree's text is read as the tree. -/
theorem pAt_of_print (s : ByteArray) : ∀ (T : QT) (k n : Nat), T.deep k = true → hasAt s n T.print → pAt s k n = some (T, n + T.print.length) := by
  intro T
  induction T with
  | leaf b =>
    intro k n _ h
    have h0 := (hasAt_cons.1 h).1
    cases b <;> cases k <;> simp [pAt, h0, colB, QT.print]
  | node a b c d iha ihb ihc ihd =>
    intro k n hd h
    cases k with
    | zero => simp [QT.deep] at hd
    | succ k =>
      simp only [QT.deep, Bool.and_eq_true] at hd
      obtain ⟨⟨⟨da, db⟩, dc⟩, dd⟩ := hd
      rw [QT.print, hasAt_cons, hasAt_append, hasAt_append, hasAt_append, hasAt_append, hasAt_cons] at h
      obtain ⟨h0, ha, hb, hc, hd, he, _⟩ := h
      have ea := iha k _ da ha
      have eb := ihb k _ db hb
      have ec := ihc k _ dc hc
      have ed := ihd k _ dd hd
      have e : n + (QT.node a b c d).print.length = n + 1 + a.print.length + b.print.length + c.print.length + d.print.length + 1 := by simp [QT.print]; omega
      rw [e]
      simp [pAt, h0, ea, eb, ec, ed, he]
theorem print_pos (T : QT) : 0 < T.print.length := by cases T <;> simp [QT.print]
theorem print_len : ∀ (k : Nat) (T : QT), T.deep k = true → T.print.length + 2 ≤ 3 * 4 ^ k := by
  intro k
  induction k with
  | zero =>
    intro T h
    cases T with
    | leaf b => simp [QT.print]
    | node a b c d => simp [QT.deep] at h
  | succ k ih =>
    intro T h
    have hk : 0 < 4 ^ k := Nat.pos_of_ne_zero (by simp)
    cases T with
    | leaf b => simp [QT.print, Nat.pow_succ]; omega
    | node a b c d =>
      simp only [QT.deep, Bool.and_eq_true] at h
      have ha := ih a h.1.1.1
      have hb := ih b h.1.1.2
      have hc := ih c h.1.2
      have hd := ih d h.2
      simp [QT.print, Nat.pow_succ]
      omega
/-- The tree that a text is: if it is read whole, and no square of one colour is divided. -/
def treeOk (k : Nat) (s : ByteArray) : Bool := match pAt s k 0 with
  | some (T, p) => decide (p = s.size) && T.canon
  | none => false
def bytesOf (l : List UInt8) : ByteArray := ⟨l.toArray⟩
theorem hasAt_bytes (l : List UInt8) : hasAt (bytesOf l) 0 l := fun i h => by simp [bytesOf, h]
theorem hasAt_whole {s : ByteArray} {l : List UInt8} (h : hasAt s 0 l) (hl : s.size = l.length) : s = bytesOf l := by
  have : s.data.toList = l := by
    apply List.ext_getElem?
    intro i
    by_cases hi : i < l.length
    · have := h i hi
      rw [Nat.zero_add] at this
      rw [Array.getElem?_toList, this, List.getElem?_eq_getElem hi]
    · have hs : s.data.toList.length = l.length := by rw [← hl, Array.length_toList]; rfl
      rw [List.getElem?_eq_none (by omega), List.getElem?_eq_none (by omega)]
  rw [bytesOf, ← this]
/-- What is read whole is canonical exactly if the tree of its pixels has this text. -/
theorem canon_iff {s : ByteArray} {k : Nat} {T : QT} (h : pAt s k 0 = some (T, s.size)) : T.canon = true ↔ bytesOf (qt k (T.col k) 0 0).print = s := by
  obtain ⟨hd, hp, hl⟩ := pAt_print s k 0 T _ h
  have hs : s = bytesOf T.print := hasAt_whole hp (by omega)
  constructor
  · intro hc
    rw [qt_col T k hc hd, ← hs]
  · intro he
    have h1 : hasAt s 0 (qt k (T.col k) 0 0).print := by rw [← he]; exact hasAt_bytes _
    have h2 := pAt_of_print s _ k 0 (qt_deep k _ 0 0) h1
    rw [h] at h2
    simp only [Option.some.injEq, Prod.mk.injEq] at h2
    rw [h2.1]
    exact qt_canon k _ 0 0
/-- The text of pixels is read as their tree. -/
theorem read_qt (k : Nat) (f : Nat → Nat → Bool) (x y : Nat) : pAt (bytesOf (qt k f x y).print) k 0 = some (qt k f x y, (bytesOf (qt k f x y).print).size) := by
  have := pAt_of_print (bytesOf (qt k f x y).print) (qt k f x y) k 0 (qt_deep k f x y) (hasAt_bytes _)
  rw [this]
  simp [bytesOf, ByteArray.size]

/-- A leaf: its square, its colour, its address. -/
structure QLeaf where
  x : Nat
  y : Nat
  side : Nat
  black : Bool
  addr : ByteArray
def addrB (n : UInt8) : ByteArray := ⟨#[n]⟩
/-- The leaves of a tree whose square begins at (x, y). -/
def QT.leaves : QT → Nat → Nat → Nat → ByteArray → List QLeaf
  | .leaf b, k, x, y, p => [⟨x, y, 2 ^ k, b, p⟩]
  | .node a b c d, k, x, y, p => a.leaves (k - 1) x y (p ++ addrB 48) ++ (b.leaves (k - 1) (x + 2 ^ (k - 1)) y (p ++ addrB 49) ++ (c.leaves (k - 1) x (y + 2 ^ (k - 1)) (p ++ addrB 50) ++ d.leaves (k - 1) (x + 2 ^ (k - 1)) (y + 2 ^ (k - 1)) (p ++ addrB 51)))
theorem leaves_len : ∀ (k : Nat) (T : QT) (x y : Nat) (p : ByteArray), T.deep k = true → (T.leaves k x y p).length ≤ 4 ^ k := by
  intro k
  induction k with
  | zero =>
    intro T x y p h
    cases T with
    | leaf b => simp [QT.leaves]
    | node a b c d => simp [QT.deep] at h
  | succ k ih =>
    intro T x y p h
    have hk : 0 < 4 ^ k := Nat.pos_of_ne_zero (by simp)
    cases T with
    | leaf b => simp [QT.leaves, Nat.pow_succ]; omega
    | node a b c d =>
      simp only [QT.deep, Bool.and_eq_true] at h
      have ha := ih a x y (p ++ addrB 48) h.1.1.1
      have hb := ih b (x + 2 ^ k) y (p ++ addrB 49) h.1.1.2
      have hc := ih c x (y + 2 ^ k) (p ++ addrB 50) h.1.2
      have hd := ih d (x + 2 ^ k) (y + 2 ^ k) (p ++ addrB 51) h.2
      simp [QT.leaves, Nat.pow_succ]
      omega
theorem leaves_pos (k : Nat) (T : QT) (x y : Nat) (p : ByteArray) : 0 < (T.leaves k x y p).length := by
  induction T generalizing k x y p with
  | leaf b => simp [QT.leaves]
  | node a b c d iha _ _ _ =>
    have := iha (k - 1) x y (p ++ addrB 48)
    simp [QT.leaves]
    omega
end Go.Proofs.Ytnenogpagkepfaa
