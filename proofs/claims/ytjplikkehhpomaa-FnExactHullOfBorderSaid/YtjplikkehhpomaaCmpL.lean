/- The plain law of slices.Compact: a list without those that equal the one before. -/
import Derived.Test.YtjplikkehhpomaaBase
set_option linter.unusedVariables false
namespace Go.Proofs.Ytjplikkehhpomaa
open Go.RowKit

/-- The first k of a list, without those that equal the one before. -/
def ddN (l : List (Int × Int)) : Nat → List (Int × Int)
  | 0 => []
  | k + 1 => ddN l k ++ if k ≠ 0 ∧ l.getD k (0, 0) = l.getD (k - 1) (0, 0) then [] else [l.getD k (0, 0)]
def cmpL (l : List (Int × Int)) : List (Int × Int) := ddN l l.length
theorem ddN_len (l : List (Int × Int)) : ∀ k, (ddN l k).length ≤ k
  | 0 => Nat.le_refl _
  | k + 1 => by
    have := ddN_len l k
    rw [ddN, List.length_append]
    split <;> simp <;> omega
theorem ddN_pos (l : List (Int × Int)) : ∀ k, 0 < k → 0 < (ddN l k).length
  | 0, h => absurd h (by omega)
  | k + 1, _ => by
    rw [ddN, List.length_append]
    by_cases h0 : k = 0
    · subst h0; simp
    · have := ddN_pos l k (by omega)
      omega
theorem cmpL_len (l : List (Int × Int)) : (cmpL l).length ≤ l.length := ddN_len l _
section
variable {lt : Int × Int → Int × Int → Prop}
theorem dd_ok (irr : ∀ a, ¬ lt a a) (tr : ∀ a b c, lt a b → lt b c → lt a c) {l : List (Int × Int)} (hs : l.Pairwise fun a b => a = b ∨ lt a b) : ∀ k, k ≤ l.length →
    (ddN l k).Pairwise lt ∧ (∀ x, x ∈ ddN l k ↔ x ∈ l.take k) ∧ ∀ x ∈ ddN l k, 0 < k → x = l.getD (k - 1) (0, 0) ∨ lt x (l.getD (k - 1) (0, 0))
  | 0, _ => ⟨List.Pairwise.nil, fun x => by simp [ddN], fun x hx => absurd hx (by simp [ddN])⟩
  | k + 1, hk => by
    obtain ⟨h1, h2, h3⟩ := dd_ok irr tr hs k (by omega)
    have e1 : l.getD k (0, 0) = l[k] := by simp [List.getD, List.getElem?_eq_getElem (show k < l.length by omega)]
    have et : l.take (k + 1) = l.take k ++ [l.getD k (0, 0)] := by rw [e1, List.take_succ_eq_append_getElem (by omega)]
    rw [ddN, Nat.add_sub_cancel]
    by_cases h0 : k ≠ 0 ∧ l.getD k (0, 0) = l.getD (k - 1) (0, 0)
    · rw [if_pos h0, List.append_nil]
      have hm : l.getD k (0, 0) ∈ l.take k := by
        rw [h0.2]
        have e2 : l.getD (k - 1) (0, 0) = l[k - 1] := by simp [List.getD, List.getElem?_eq_getElem (show k - 1 < l.length by omega)]
        rw [e2, List.mem_take_iff_getElem]
        exact ⟨k - 1, by omega, rfl⟩
      refine ⟨h1, fun x => ?_, fun x hx _ => ?_⟩
      · rw [et, List.mem_append, List.mem_singleton, h2]
        constructor
        · exact .inl
        · rintro (h | rfl)
          · exact h
          · exact hm
      · rw [h0.2]
        exact h3 x hx (by omega)
    · rw [if_neg h0]
      have hlt : ∀ x ∈ ddN l k, lt x (l.getD k (0, 0)) := by
        intro x hx
        have hk0 : k ≠ 0 := by
          intro e
          subst e
          simp [ddN] at hx
        have e2 : l.getD (k - 1) (0, 0) = l[k - 1] := by simp [List.getD, List.getElem?_eq_getElem (show k - 1 < l.length by omega)]
        have h4 := List.pairwise_iff_getElem.1 hs (k - 1) k (by omega) (by omega) (by omega)
        rw [← e1, ← e2] at h4
        rcases h4 with h4 | h4
        · exact absurd ⟨hk0, h4.symm⟩ h0
        · rcases h3 x hx (by omega) with rfl | h5
          · exact h4
          · exact tr _ _ _ h5 h4
      refine ⟨?_, fun x => ?_, fun x hx _ => ?_⟩
      · rw [List.pairwise_append]
        refine ⟨h1, List.pairwise_singleton _ _, fun a ha b hb => ?_⟩
        rw [List.mem_singleton] at hb
        subst hb
        exact hlt a ha
      · rw [et, List.mem_append, List.mem_append, h2]
      · rw [List.mem_append, List.mem_singleton] at hx
        rcases hx with hx | rfl
        · exact .inr (hlt x hx)
        · exact .inl rfl
theorem cmp_ok (irr : ∀ a, ¬ lt a a) (tr : ∀ a b c, lt a b → lt b c → lt a c) {l : List (Int × Int)} (hs : l.Pairwise fun a b => a = b ∨ lt a b) : (cmpL l).Pairwise lt ∧ ∀ x, x ∈ cmpL l ↔ x ∈ l := by
  obtain ⟨h1, h2, _⟩ := dd_ok irr tr hs l.length (Nat.le_refl _)
  refine ⟨h1, fun x => ?_⟩
  rw [cmpL, h2, List.take_of_length_le (Nat.le_refl _)]
theorem same_sorted (irr : ∀ a, ¬ lt a a) (tr : ∀ a b c, lt a b → lt b c → lt a c) {l m : List (Int × Int)} (hl : l.Pairwise lt) (hm : m.Pairwise lt) (h : ∀ x, x ∈ l ↔ x ∈ m) : l = m := by
  have nd : ∀ {l : List (Int × Int)}, l.Pairwise lt → l.Nodup := by
    intro l h
    unfold List.Nodup
    refine h.imp ?_
    intro a b h e
    subst e
    exact irr _ h
  have hp : l.Perm m := (List.perm_ext_iff_of_nodup (nd hl) (nd hm)).2 h
  refine List.Perm.eq_of_pairwise (le := lt) (fun a b _ _ h1 h2 => ?_) hl hm hp
  exact absurd (tr _ _ _ h1 h2) (irr a)
end
end Go.Proofs.Ytjplikkehhpomaa
