/- The plain law of touching leaves: what is marked while the border of a leaf is looked through. -/
import Derived.Test.YtnenogpagkepfaaLeafLaw
set_option linter.unusedVariables false
set_option linter.unusedSimpArgs false
namespace Go.Proofs.Ytnenogpagkepfaa
open Go.RowKit

theorem lf_part {n : Int} {s : ByteArray} (h : treeV n s = true) : Part (treeLv n s) 0 0 (2 ^ lg n) := by
  obtain ⟨_, T, hp, hc, hd⟩ := treeV_is h
  rw [lv_tree hp hc]
  exact leaves_part _ T 0 0 _ hd
theorem lf_adr {n : Int} {s : ByteArray} (h : treeV n s = true) : ∀ q ∈ treeLv n s, q.addr.data.toList.foldl adrS (0, 0, 2 ^ lg n) = (q.x, q.y, q.side) := by
  obtain ⟨_, T, hp, hc, hd⟩ := treeV_is h
  rw [lv_tree hp hc]
  exact leaves_addr _ T 0 0 _ _ hd rfl
theorem getD_memQ {l : List QLeaf} {i : Nat} (h : i < l.length) : l.getD i noLeaf ∈ l := by simp [List.getD, List.getElem?_eq_getElem h]
theorem inLeaf_has {q : QLeaf} {x y : Int} : inLeaf x y q = true ↔ 0 ≤ x ∧ 0 ≤ y ∧ q.has x.toNat y.toNat := by
  simp only [inLeaf, inB, Bool.and_eq_true, decide_eq_true_eq, QLeaf.has]
  omega
/-- What is told of a pixel: nothing outside, and inside the leaf that has it. -/
theorem leaf_told {n : Int} {s : ByteArray} (h : treeV n s = true) {N : Nat} (hN : 2 ^ lg n = N) (x y : Int) :
    (laOk n s x y = false ∧ ¬ (0 ≤ x ∧ 0 ≤ y ∧ x < N ∧ y < N)) ∨
    (laOk n s x y = true ∧ (0 ≤ x ∧ 0 ≤ y ∧ x < N ∧ y < N) ∧ ∃ K : Nat, K < (treeLv n s).length ∧ laI n s x y = K ∧ ((treeLv n s).getD K noLeaf).has x.toNat y.toNat) := by
  have P := lf_part h
  rw [hN] at P
  by_cases hr : 0 ≤ x ∧ 0 ≤ y ∧ x < N ∧ y < N
  · right
    obtain ⟨q, hq, hh⟩ := P.cover x.toNat y.toNat (by omega) (by omega)
    have hlt : (treeLv n s).findIdx (inLeaf x y) < (treeLv n s).length := List.findIdx_lt_length_of_exists ⟨q, hq, inLeaf_has.2 ⟨hr.1, hr.2.1, hh⟩⟩
    have hg := List.findIdx_getElem (w := hlt)
    have hok : laOk n s x y = true := by rw [laOk, h, laN, decide_eq_true hlt]; rfl
    refine ⟨hok, hr, _, hlt, by rw [laI, hok]; rfl, ?_⟩
    have h2 := (inLeaf_has.1 hg).2.2
    have e : (treeLv n s).getD ((treeLv n s).findIdx (inLeaf x y)) noLeaf = (treeLv n s)[(treeLv n s).findIdx (inLeaf x y)] := by simp [List.getD, List.getElem?_eq_getElem hlt]
    rw [e]
    exact h2
  · left
    refine ⟨?_, hr⟩
    have : (treeLv n s).findIdx (inLeaf x y) = (treeLv n s).length := by
      rw [List.findIdx_eq_length]
      intro q hq
      cases hi : inLeaf x y q
      · rfl
      · exfalso
        have h1 := inLeaf_has.1 hi
        have h2 := P.inside q hq
        unfold QLeaf.has at h1
        omega
    rw [laOk, laN, this]
    simp
/-- Is a pixel on one side of a square, but not at a corner of it? -/
def BX (r : QLeaf) (i : Int) : Prop := (r.x : Int) ≤ i ∧ i < r.x + r.side
def BY (r : QLeaf) (j : Int) : Prop := (r.y : Int) ≤ j ∧ j < r.y + r.side
/-- Has a place been looked at? -/
def Done (r : QLeaf) (j i i' j' : Int) : Prop := (r.x : Int) - 1 ≤ i' ∧ i' ≤ r.x + r.side ∧ (r.y : Int) - 1 ≤ j' ∧ (j' < j ∨ (j' = j ∧ i' < i))
/-- What is marked so far. -/
def FRel (l : List QLeaf) (r : QLeaf) (j i : Int) (F : Nat → Bool) : Prop :=
  ∀ k, k < l.length → (F k = true ↔ ∃ i' j' : Int, Done r j i i' j' ∧ 0 ≤ i' ∧ 0 ≤ j' ∧ (l.getD k noLeaf).has i'.toNat j'.toNat ∧ ¬ (BX r i' ↔ BY r j'))
theorem frel_start (l : List QLeaf) (r : QLeaf) : FRel l r ((r.y : Int) - 1) ((r.x : Int) - 1) (fun _ => false) := by
  intro k hk
  constructor
  · intro h; cases h
  · rintro ⟨i', j', ⟨h1, h2, h3, h4⟩, _⟩
    omega
theorem FRel.row {l : List QLeaf} {r : QLeaf} {j : Int} {F : Nat → Bool} (h : FRel l r j ((r.x : Int) + r.side + 1) F) : FRel l r (j + 1) ((r.x : Int) - 1) F := by
  intro k hk
  rw [h k hk]
  constructor
  · rintro ⟨i', j', ⟨h1, h2, h3, h4⟩, g⟩
    exact ⟨i', j', ⟨h1, h2, h3, by omega⟩, g⟩
  · rintro ⟨i', j', ⟨h1, h2, h3, h4⟩, g⟩
    exact ⟨i', j', ⟨h1, h2, h3, by omega⟩, g⟩
theorem FRel.skip {l : List QLeaf} {r : QLeaf} {j i : Int} {F : Nat → Bool} (h : FRel l r j i F) (hno : ∀ k, k < l.length → 0 ≤ i → 0 ≤ j → (l.getD k noLeaf).has i.toNat j.toNat → (BX r i ↔ BY r j)) : FRel l r j (i + 1) F := by
  intro k hk
  rw [h k hk]
  constructor
  · rintro ⟨i', j', ⟨h1, h2, h3, h4⟩, g⟩
    exact ⟨i', j', ⟨h1, h2, h3, by omega⟩, g⟩
  · rintro ⟨i', j', ⟨h1, h2, h3, h4⟩, g1, g2, g3, g4⟩
    by_cases e : j' = j ∧ i' = i
    · obtain ⟨rfl, rfl⟩ := e
      exact absurd (hno k hk g1 g2 g3) g4
    · exact ⟨i', j', ⟨h1, h2, h3, by omega⟩, g1, g2, g3, g4⟩
theorem FRel.set {l : List QLeaf} {r : QLeaf} {j i : Int} {F : Nat → Bool} {N K : Nat} (P : Part l 0 0 N) (h : FRel l r j i F) (hK : K < l.length) (hi : 0 ≤ i) (hj : 0 ≤ j) (hh : (l.getD K noLeaf).has i.toNat j.toNat) (hb : ¬ (BX r i ↔ BY r j))
    (h1 : (r.x : Int) - 1 ≤ i) (h2 : i ≤ r.x + r.side) (h3 : (r.y : Int) - 1 ≤ j) : FRel l r j (i + 1) (fun k => if k = K then true else F k) := by
  intro k hk
  by_cases e : k = K
  · subst e
    show (if k = k then true else F k) = true ↔ _
    rw [if_pos rfl]
    exact ⟨fun _ => ⟨i, j, ⟨h1, h2, h3, by omega⟩, hi, hj, hh, hb⟩, fun _ => rfl⟩
  · show (if k = K then true else F k) = true ↔ _
    rw [if_neg e, h k hk]
    constructor
    · rintro ⟨i', j', ⟨g1, g2, g3, g4⟩, g⟩
      exact ⟨i', j', ⟨g1, g2, g3, by omega⟩, g⟩
    · rintro ⟨i', j', ⟨g1, g2, g3, g4⟩, g5, g6, g7, g8⟩
      by_cases e2 : j' = j ∧ i' = i
      · obtain ⟨rfl, rfl⟩ := e2
        exact absurd (P.one hk hK g7 hh) e
      · exact ⟨i', j', ⟨g1, g2, g3, by omega⟩, g5, g6, g7, g8⟩
theorem FRel.done {l : List QLeaf} {N a : Nat} {F : Nat → Bool} (P : Part l 0 0 N) (ha : a < l.length) (h : FRel l (l.getD a noLeaf) (((l.getD a noLeaf).y : Int) + (l.getD a noLeaf).side + 1) (((l.getD a noLeaf).x : Int) - 1) F) :
    ∀ k, k < l.length → F k = touchB (l.getD a noLeaf) (l.getD k noLeaf) := by
  intro k hk
  have hr := (P.inside _ (getD_memQ ha)).1
  have hq := (P.inside _ (getD_memQ hk)).1
  rw [Bool.eq_iff_iff, h k hk]
  by_cases e : k = a
  · subst e
    rw [touch_self hr]
    constructor
    · rintro ⟨i', j', _, g1, g2, g3, g4⟩
      exfalso
      apply g4
      unfold QLeaf.has at g3
      unfold BX BY
      omega
    · intro h; cases h
  · have hd : ∀ i j, (l.getD k noLeaf).has i j → ¬ (l.getD a noLeaf).has i j := fun i j h1 h2 => e (P.one hk ha h1 h2)
    rw [touch_iff hq hr hd]
    constructor
    · rintro ⟨i', j', ⟨h1, h2, h3, h4⟩, g1, g2, g3, g4⟩
      exact ⟨i', j', h1, h2, h3, by omega, g1, g2, g3, g4⟩
    · rintro ⟨i', j', h1, h2, h3, h4, g1, g2, g3, g4⟩
      exact ⟨i', j', ⟨h1, h2, h3, by omega⟩, g1, g2, g3, g4⟩
/-- The square that the first i signs of an address lead to. -/
def adrN (N : Nat) (s : ByteArray) (i : Nat) : Nat × Nat × Nat := (s.data.toList.take i).foldl adrS (0, 0, N)
theorem adrN_zero (N : Nat) (s : ByteArray) : adrN N s 0 = (0, 0, N) := rfl
theorem adrN_succ (N : Nat) {s : ByteArray} {i : Nat} (h : i < s.size) : adrN N s (i + 1) = adrS (adrN N s i) s[i] := by
  have hl : i < s.data.toList.length := by rw [Array.length_toList]; exact h
  rw [adrN, adrN, List.take_succ_eq_append_getElem hl, List.foldl_append]
  rfl
theorem adrN_all (N : Nat) (s : ByteArray) : adrN N s s.size = s.data.toList.foldl adrS (0, 0, N) := by
  rw [adrN, List.take_of_length_le (by rw [Array.length_toList]; exact Nat.le_refl _)]
theorem adrN_bd (N : Nat) {s : ByteArray} : ∀ i, i ≤ s.size → (adrN N s i).1 + (adrN N s i).2.2 ≤ N ∧ (adrN N s i).2.1 + (adrN N s i).2.2 ≤ N
  | 0, _ => by rw [adrN_zero]; simp
  | i + 1, h => by
    have ih := adrN_bd N (s := s) i (by omega)
    rw [adrN_succ N (s := s) (i := i) (by omega)]
    generalize adrN N s i = t at *
    obtain ⟨x, y, z⟩ := t
    simp only [adrS] at *
    constructor <;> split <;> omega
theorem adrS_x (t : Nat × Nat × Nat) (c : UInt8) : ((adrS t c).1 : Int) = if (c.toNat : Int) = 49 ∨ (c.toNat : Int) = 51 then (t.1 : Int) + (t.2.2 : Int) / 2 else (t.1 : Int) := by
  have h : (c = 49 ∨ c = 51) ↔ ((c.toNat : Int) = 49 ∨ (c.toNat : Int) = 51) := by
    rw [← UInt8.toNat_inj, ← UInt8.toNat_inj, show (49 : UInt8).toNat = 49 from rfl, show (51 : UInt8).toNat = 51 from rfl]
    omega
  simp only [adrS]
  by_cases hc : c = 49 ∨ c = 51
  · rw [if_pos hc, if_pos (h.1 hc)]; omega
  · rw [if_neg hc, if_neg (fun g => hc (h.2 g))]
theorem adrS_y (t : Nat × Nat × Nat) (c : UInt8) : ((adrS t c).2.1 : Int) = if (c.toNat : Int) = 50 ∨ (c.toNat : Int) = 51 then (t.2.1 : Int) + (t.2.2 : Int) / 2 else (t.2.1 : Int) := by
  have h : (c = 50 ∨ c = 51) ↔ ((c.toNat : Int) = 50 ∨ (c.toNat : Int) = 51) := by
    rw [← UInt8.toNat_inj, ← UInt8.toNat_inj, show (50 : UInt8).toNat = 50 from rfl, show (51 : UInt8).toNat = 51 from rfl]
    omega
  simp only [adrS]
  by_cases hc : c = 50 ∨ c = 51
  · rw [if_pos hc, if_pos (h.1 hc)]; omega
  · rw [if_neg hc, if_neg (fun g => hc (h.2 g))]
theorem adrS_z (t : Nat × Nat × Nat) (c : UInt8) : ((adrS t c).2.2 : Int) = (t.2.2 : Int) / 2 := by
  simp only [adrS]
  omega
theorem touchN_mono (l : List QLeaf) (a : QLeaf) {i j : Nat} (h : i ≤ j) : ∃ m, touchN l a j = touchN l a i ++ m := by
  induction j with
  | zero => obtain rfl : i = 0 := by omega
            exact ⟨[], by simp⟩
  | succ j ih =>
    by_cases e : i = j + 1
    · subst e; exact ⟨[], by simp⟩
    · obtain ⟨m, hm⟩ := ih (by omega)
      cases ht : touchB a (l.getD j noLeaf)
      · exact ⟨m, by rw [touchN_no ht, hm]⟩
      · exact ⟨m ++ [(j : Int)], by rw [touchN_yes ht, hm, List.append_assoc]⟩
/-- The next touching leaf, where k touches. -/
theorem touchN_at {l : List QLeaf} {a : QLeaf} {k n : Nat} (hk : k < n) (h : touchB a (l.getD k noLeaf) = true) :
    (touchN l a k).length < (touchN l a n).length ∧ (touchN l a n).getD (touchN l a k).length 0 = (k : Int) ∧ (touchN l a (k + 1)).length = (touchN l a k).length + 1 := by
  obtain ⟨m, hm⟩ := touchN_mono l a (show k + 1 ≤ n by omega)
  rw [touchN_yes h] at hm
  have e := congrArg List.length hm
  simp only [List.length_append, List.length_singleton] at e
  refine ⟨by omega, ?_, by rw [touchN_yes h]; simp⟩
  rw [hm]
  simp [List.getD]
theorem touchN_pass {l : List QLeaf} {a : QLeaf} {k : Nat} (h : touchB a (l.getD k noLeaf) = false) : (touchN l a (k + 1)).length = (touchN l a k).length := by rw [touchN_no h]
/-- The tree of a picture with the side of a tree. -/
theorem sq_tree {k : Nat} (hk : k ≤ 4) (f : Nat → Bool) : toOk (render (2 ^ k) (2 ^ k) f) = true ∧ toN (render (2 ^ k) (2 ^ k) f) = ((2 ^ k : Nat) : Int) ∧ (toS (render (2 ^ k) (2 ^ k) f)).size ≤ 1000 ∧
    treeV ((2 ^ k : Nat) : Int) (toS (render (2 ^ k) (2 ^ k) f)) = true ∧ 2 ^ lg ((2 ^ k : Nat) : Int) = 2 ^ k := by
  have hp := pow_le4 hk
  have hw : wid (render (2 ^ k) (2 ^ k) f) = 2 ^ k := wid_render hp.1
  have hl := render_len (2 ^ k) (2 ^ k) f
  have hok := okPic_render f hp.1 hp.2 hp.1 hp.2
  have hlg : lg ((2 ^ k : Nat) : Int) = k := by
    have : k = 0 ∨ k = 1 ∨ k = 2 ∨ k = 3 ∨ k = 4 := by omega
    rcases this with rfl | rfl | rfl | rfl | rfl <;> rfl
  have hsd : sideB ((2 ^ k : Nat) : Int) = true := by
    have : k = 0 ∨ k = 1 ∨ k = 2 ∨ k = 3 ∨ k = 4 := by omega
    rcases this with rfl | rfl | rfl | rfl | rfl <;> rfl
  have hto : toOk (render (2 ^ k) (2 ^ k) f) = true := by
    rw [toOk, hok, hw, hl, hsd]
    simp
  obtain ⟨h1, h2⟩ := to_yes hto
  rw [hw] at h1 h2
  rw [hlg] at h2
  refine ⟨hto, h1, by rw [h2]; exact toT_size hk _, ?_, by rw [hlg]⟩
  rw [treeV, hsd, hlg, h2, toT, treeOk, read_qt]
  simp [qt_canon]
theorem sq_tree' {k N : Nat} (hk : k ≤ 4) (hN : 2 ^ k = N) (f : Nat → Bool) : toOk (render N N f) = true ∧ toN (render N N f) = (N : Int) ∧ (toS (render N N f)).size ≤ 1000 ∧
    treeV (N : Int) (toS (render N N f)) = true ∧ 2 ^ lg (N : Int) = N ∧ 1 ≤ N ∧ N ≤ 16 := by
  subst hN
  obtain ⟨h1, h2, h3, h4, h5⟩ := sq_tree hk f
  exact ⟨h1, h2, h3, h4, h5, (pow_le4 hk).1, (pow_le4 hk).2⟩
end Go.Proofs.Ytnenogpagkepfaa
