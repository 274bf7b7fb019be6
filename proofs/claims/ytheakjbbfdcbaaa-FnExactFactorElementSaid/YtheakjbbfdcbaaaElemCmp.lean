/- The plain law of the sums of offsets: put in one by one, or sorted and then compacted. -/
import Derived.Test.YtheakjbbfdcbaaaElemPut
import Derived.Test.YtheakjbbfdcbaaaElemSrt
import Derived.Test.YtheakjbbfdcbaaaCmpL
set_option linter.unusedVariables false
namespace Go.Proofs.Ytheakjbbfdcbaaa
open Go.RowKit Go.Sort

theorem befB_irr (a : Int × Int) : ¬ befB a a = true := by rw [befB_iff]; omega
theorem cmp_rising {l : List (Int × Int)} (hr : Rising l) : cmpL l = l := by
  have hs : l.Pairwise fun a b => a = b ∨ befB a b = true := List.Pairwise.imp (fun {a b} h => .inr h) hr
  obtain ⟨h1, h2⟩ := cmp_ok (lt := fun a b => befB a b = true) befB_irr (fun a b c => befB_trans) hs
  exact same_sorted (lt := fun a b => befB a b = true) befB_irr (fun a b c => befB_trans) h1 hr h2
theorem srt_sorted (l : List (Int × Int)) : (srtL l).Pairwise fun a b => a = b ∨ befB a b = true := by
  have h2 : (srtL l).Pairwise (fun x y => (!(ltOf ordZ) y x) = true) := by
    refine List.pairwise_mergeSort (le := fun x y => !(ltOf ordZ) y x) (fun a b c h1 h2 => ?_) (fun a b => ?_) l
    · simp only [Bool.not_eq_true'] at *
      rw [ltOf_bef, befB_no] at *
      omega
    · simp only [ltOf_bef]
      cases hab : befB b a
      · simp
      · have : befB a b = false := by rw [befB_no]; rw [befB_iff] at hab; omega
        simp [this]
  refine List.Pairwise.imp (fun {a b} h => ?_) h2
  rw [Bool.not_eq_true', ltOf_bef, befB_no] at h
  by_cases e : a = b
  · exact .inl e
  · refine .inr ?_
    rw [befB_iff]
    have : ¬ (a.1 = b.1 ∧ a.2 = b.2) := fun h => e (Prod.ext h.1 h.2)
    omega
/-- Offsets in order, once each. -/
def setL (l : List (Int × Int)) : List (Int × Int) := cmpL (srtL l)
theorem set_ok (l : List (Int × Int)) : Rising (setL l) ∧ ∀ x, x ∈ setL l ↔ x ∈ l := by
  obtain ⟨h1, h2⟩ := cmp_ok (lt := fun a b => befB a b = true) befB_irr (fun a b c => befB_trans) (srt_sorted l)
  refine ⟨h1, fun x => ?_⟩
  rw [setL, h2]
  exact List.mem_mergeSort
theorem set_rising {l : List (Int × Int)} (hr : Rising l) : srtL l = l := srt_of_perm (List.Perm.refl _) hr
theorem putS_ok {m : List (Int × Int)} (hr : Rising m) (o : Int × Int) : Rising (putS m o) ∧ ∀ x, x ∈ putS m o ↔ x ∈ m ∨ x = o := by
  have hle := befN_le o m
  have hyes := befN_yes o m
  have hno := befN_no o m
  unfold putS
  generalize befN o m = j at *
  by_cases h : j < m.length ∧ m.getD j (0, 0) = o
  · rw [if_pos h]
    refine ⟨hr, fun x => ⟨.inl, ?_⟩⟩
    rintro (h2 | rfl)
    · exact h2
    · have e1 : m.getD j (0, 0) = m[j] := by simp [List.getD, List.getElem?_eq_getElem h.1]
      rw [← h.2, e1]
      exact List.getElem_mem _
  · rw [if_neg h]
    have ed : ∀ i (h : i < m.length), m.getD i (0, 0) = m[i] := fun i h => by simp [List.getD, List.getElem?_eq_getElem h]
    have h1 : ∀ a ∈ m.take j, befB a o = true := by
      intro a ha
      obtain ⟨i, hi, rfl⟩ := List.mem_take_iff_getElem.1 ha
      have := hyes i (by omega)
      rw [ed i (by omega)] at this
      exact this
    have h2 : ∀ b ∈ m.drop j, befB o b = true := by
      intro b hb
      obtain ⟨i, hi, rfl⟩ := List.mem_drop_iff_getElem.1 hb
      have h3 := hno (by omega)
      have h4 : ¬ m.getD j (0, 0) = o := fun e => h ⟨by omega, e⟩
      rw [ed j (by omega)] at h3 h4
      have h5 : befB o m[j] = true := by
        rw [befB_iff]
        rw [befB_no] at h3
        have : ¬ (m[j].1 = o.1 ∧ m[j].2 = o.2) := fun e => h4 (Prod.ext e.1 e.2)
        omega
      by_cases e : i = 0
      · have e2 : m[j + i] = m[j] := by congr 1; omega
        rw [e2]
        exact h5
      · exact befB_trans h5 (List.pairwise_iff_getElem.1 hr j (j + i) (by omega) (by omega) (by omega))
    refine ⟨?_, fun x => ?_⟩
    · unfold Rising
      rw [List.pairwise_append]
      refine ⟨List.Pairwise.sublist (List.take_sublist _ _) hr, ?_, fun a ha b hb => ?_⟩
      · rw [List.pairwise_cons]
        exact ⟨h2, List.Pairwise.sublist (List.drop_sublist _ _) hr⟩
      · rcases List.mem_cons.1 hb with rfl | hb
        · exact h1 a ha
        · exact befB_trans (h1 a ha) (h2 b hb)
    · rw [List.mem_append, List.mem_cons]
      have e3 : x ∈ m ↔ x ∈ m.take j ∨ x ∈ m.drop j := by rw [← List.mem_append, List.take_append_drop]
      rw [e3]
      constructor
      · rintro (h | h | h)
        · exact .inl (.inl h)
        · exact .inr h
        · exact .inl (.inr h)
      · rintro ((h | h) | h)
        · exact .inl h
        · exact .inr (.inr h)
        · exact .inr (.inl h)
theorem puts_ok : ∀ (l m : List (Int × Int)), Rising m → Rising (l.foldl putS m) ∧ ∀ x, x ∈ l.foldl putS m ↔ x ∈ m ∨ x ∈ l
  | [], m, hr => ⟨hr, fun x => by simp⟩
  | a :: l, m, hr => by
    obtain ⟨h1, h2⟩ := putS_ok hr a
    obtain ⟨h3, h4⟩ := puts_ok l (putS m a) h1
    rw [List.foldl_cons]
    refine ⟨h3, fun x => ?_⟩
    rw [h4, h2, List.mem_cons, or_assoc]
theorem puts_set (l : List (Int × Int)) : l.foldl putS [] = setL l := by
  obtain ⟨h1, h2⟩ := puts_ok l [] List.Pairwise.nil
  obtain ⟨h3, h4⟩ := set_ok l
  refine same_sorted (lt := fun a b => befB a b = true) befB_irr (fun a b c => befB_trans) h1 h3 (fun x => ?_)
  rw [h2, h4]
  simp
def addS (s t : Int × Int) : Int × Int := (s.1 + t.1, s.2 + t.2)
/-- All sums, the offsets of the first list in the outer loop. -/
def sumL (a b : List (Int × Int)) : List (Int × Int) := a.flatMap fun o => b.map (addS o)
/-- The sums of the first i offsets, and j of the next one's. -/
def sumN (a b : List (Int × Int)) (i j : Nat) : List (Int × Int) := sumL (a.take i) b ++ (b.take j).map (addS (a.getD i (0, 0)))
theorem sumL_len (a b : List (Int × Int)) : (sumL a b).length = a.length * b.length := by
  induction a with
  | nil => simp [sumL]
  | cons x a ih =>
    have e : sumL (x :: a) b = b.map (addS x) ++ sumL a b := by simp [sumL]
    rw [e, List.length_append, ih, List.length_map, List.length_cons, Nat.add_mul, Nat.one_mul, Nat.add_comm]
theorem sumN_len {a b : List (Int × Int)} {i j : Nat} (hi : i ≤ a.length) (hj : j ≤ b.length) : (sumN a b i j).length = i * b.length + j := by
  rw [sumN, List.length_append, sumL_len, List.length_map, List.length_take, List.length_take, Nat.min_eq_left hi, Nat.min_eq_left hj]
theorem sumN_start (a b : List (Int × Int)) : sumN a b 0 0 = [] := by simp [sumN, sumL]
theorem sumN_succ {a b : List (Int × Int)} {i j : Nat} (hj : j < b.length) : sumN a b i (j + 1) = sumN a b i j ++ [addS (a.getD i (0, 0)) (b.getD j (0, 0))] := by
  have e1 : b.getD j (0, 0) = b[j] := by simp [List.getD, List.getElem?_eq_getElem hj]
  rw [sumN, sumN, List.take_succ_eq_append_getElem hj, List.map_append, e1, List.append_assoc]
  rfl
theorem sumN_next {a b : List (Int × Int)} {i : Nat} (hi : i < a.length) : sumN a b i b.length = sumN a b (i + 1) 0 := by
  have e1 : a.getD i (0, 0) = a[i] := by simp [List.getD, List.getElem?_eq_getElem hi]
  rw [sumN, sumN, List.take_of_length_le (Nat.le_refl b.length), List.take_succ_eq_append_getElem hi, e1]
  simp only [sumL, List.flatMap_append, List.flatMap_cons, List.flatMap_nil, List.append_nil, List.take_zero, List.map_nil]
theorem sumN_end (a b : List (Int × Int)) : sumN a b a.length 0 = sumL a b := by
  rw [sumN, List.take_of_length_le (Nat.le_refl a.length)]
  simp
end Go.Proofs.Ytheakjbbfdcbaaa
