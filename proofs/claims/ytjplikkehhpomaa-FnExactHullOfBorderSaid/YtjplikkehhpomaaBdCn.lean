/- The corners of a border: behind a corner comes another one. -/
import Derived.Test.YtjplikkehhpomaaBdC
set_option linter.unusedVariables false
namespace Go.Proofs.Ytjplikkehhpomaa
open Go.RowKit

/-- The corners among the first k places, t telling where they are. -/
def cg (t : Nat → Int) (P : Nat → Int × Int) : Nat → List (Int × Int)
  | 0 => []
  | k + 1 => cg t P k ++ if t k = 0 then [] else [P k]
/-- A way that goes straight on for d steps. -/
theorem run_pos {n : Nat} {P : Nat → Int × Int} {v : Nat → Int} (hv : ∀ i < n, 0 ≤ v i ∧ v i ≤ 3) (hnext : ∀ k < n, P (k + 1) = ((P k).1 + dX (v k), (P k).2 + dY (v k))) {t : Nat} :
    ∀ d : Nat, t + d ≤ n → (∀ j, t < j → j < t + d → v j = v (j - 1)) → (∀ j, t ≤ j → j < t + d → v j = v t) ∧ P (t + d) = ((P t).1 + (d : Int) * dX (v t), (P t).2 + (d : Int) * dY (v t))
  | 0, h, hs => ⟨fun j h1 h2 => absurd h2 (by omega), by simp⟩
  | d + 1, h, hs => by
    obtain ⟨h1, h2⟩ := run_pos hv hnext d (by omega) (fun j a b => hs j a (by omega))
    have h3 : v (t + d) = v t := by
      by_cases e : d = 0
      · subst e; rfl
      · rw [hs (t + d) (by omega) (by omega)]
        exact h1 _ (by omega) (by omega)
    refine ⟨fun j a b => ?_, ?_⟩
    · by_cases e : j = t + d
      · subst e; exact h3
      · exact h1 j a (by omega)
    · have h4 := hnext (t + d) (by omega)
      rw [show t + (d + 1) = t + d + 1 by omega, h4, h3, h2]
      have e1 : ∀ z : Int, ((d + 1 : Nat) : Int) * z = (d : Int) * z + z := fun z => by rw [Int.natCast_add, Int.add_mul]; simp
      rw [e1, e1]
      ext <;> simp only [] <;> omega
theorem dir_ne {k : Int} (h0 : 0 ≤ k) (h3 : k ≤ 3) {d : Int} (hd : 0 < d) (p : Int × Int) : (p.1 + d * dX k, p.2 + d * dY k) ≠ p := by
  intro e
  have e1 := congrArg Prod.fst e
  have e2 := congrArg Prod.snd e
  simp only at e1 e2
  have e : k = 0 ∨ k = 1 ∨ k = 2 ∨ k = 3 := by omega
  rcases e with rfl | rfl | rfl | rfl <;> simp [dX, dY] at e1 e2 <;> omega
/-- What the corners so far are. -/
structure CgOk (t : Nat → Int) (P : Nat → Int × Int) (k : Nat) (C : List (Int × Int)) : Prop where
  adj : ∀ i (h : i + 1 < C.length), C[i] ≠ C[i + 1]
  none : C = [] → ∀ j < k, t j = 0
  ends : ∀ (h : 0 < C.length), ∃ a b, a ≤ b ∧ b < k ∧ C[0] = P a ∧ C[C.length - 1] = P b ∧ (∀ j < a, t j = 0) ∧ (∀ j, b < j → j < k → t j = 0) ∧ (C.length = 1 → a = b)
theorem cg_ok {n : Nat} {P : Nat → Int × Int} {v t : Nat → Int} (hv : ∀ i < n, 0 ≤ v i ∧ v i ≤ 3) (hnext : ∀ k < n, P (k + 1) = ((P k).1 + dX (v k), (P k).2 + dY (v k)))
    (ht : ∀ j, 0 < j → j < n → t j = 0 → v j = v (j - 1)) : ∀ k, k ≤ n → CgOk t P k (cg t P k)
  | 0, _ => ⟨fun i h => absurd h (by simp [cg]), fun _ j h => absurd h (by omega), fun h => absurd h (by simp [cg])⟩
  | k + 1, hk => by
    have ih := cg_ok hv hnext ht k (by omega)
    rw [cg]
    by_cases h0 : t k = 0
    · rw [if_pos h0, List.append_nil]
      refine ⟨ih.adj, fun e j h => ?_, fun h => ?_⟩
      · by_cases e2 : j = k
        · subst e2; exact h0
        · exact ih.none e j (by omega)
      · obtain ⟨a, b, h1, h2, h3, h4, h5, h6, h7⟩ := ih.ends h
        refine ⟨a, b, h1, by omega, h3, h4, h5, fun j g1 g2 => ?_, h7⟩
        by_cases e2 : j = k
        · subst e2; exact h0
        · exact h6 j g1 (by omega)
    · rw [if_neg h0]
      generalize hC : cg t P k = C at *
      refine ⟨fun i h => ?_, fun e => absurd e (by simp), fun h => ?_⟩
      · rw [List.length_append, List.length_singleton] at h
        by_cases e : i + 1 < C.length
        · rw [List.getElem_append_left (by omega), List.getElem_append_left e]
          exact ih.adj i e
        · have e2 : i + 1 = C.length := by omega
          obtain ⟨a, b, h1, h2, h3, h4, h5, h6, h7⟩ := ih.ends (by omega)
          rw [List.getElem_append_left (by omega), List.getElem_append_right (by omega)]
          have e3 : C[i]'(by omega) = C[C.length - 1]'(by omega) := by congr 1; omega
          rw [e3, h4]
          simp only [List.getElem_singleton]
          obtain ⟨d, rfl⟩ : ∃ d, k = b + d := ⟨k - b, by omega⟩
          have h8 := (run_pos hv hnext (t := b) d (by omega) (fun j g1 g2 => ht j (by omega) (by omega) (h6 j g1 g2))).2
          rw [h8]
          exact fun e => dir_ne (hv b (by omega)).1 (hv b (by omega)).2 (d := (d : Int)) (by omega) _ e.symm
      · by_cases e : 0 < C.length
        · obtain ⟨a, b, h1, h2, h3, h4, h5, h6, h7⟩ := ih.ends e
          refine ⟨a, k, by omega, by omega, ?_, ?_, h5, fun j g1 g2 => absurd g2 (by omega), fun g => ?_⟩
          · rw [List.getElem_append_left e]; exact h3
          · rw [List.getElem_append_right (by simp)]
            simp
          · rw [List.length_append, List.length_singleton] at g
            omega
        · have e2 : C = [] := List.length_eq_zero_iff.1 (by omega)
          subst e2
          refine ⟨k, k, by omega, by omega, by simp, by simp, fun j g => ih.none rfl j g, fun j g1 g2 => absurd g2 (by omega), fun _ => rfl⟩
/-- Behind a corner of a way around comes another corner. -/
theorem cg_round {n : Nat} {P : Nat → Int × Int} {v t : Nat → Int} (hn : 0 < n) (hv : ∀ i < n, 0 ≤ v i ∧ v i ≤ 3) (hnext : ∀ k < n, P (k + 1) = ((P k).1 + dX (v k), (P k).2 + dY (v k))) (hback : P n = P 0)
    (ht : ∀ j, j < n → t j = 0 → v j = v (lastOf n j)) : 2 ≤ (cg t P n).length ∧ ∀ i j (hi : i < (cg t P n).length) (hj : j < (cg t P n).length), j = (i + 1) % (cg t P n).length → (cg t P n)[i] ≠ (cg t P n)[j] := by
  have ht1 : ∀ j, 0 < j → j < n → t j = 0 → v j = v (j - 1) := by
    intro j h0 h1 h2
    rw [ht j h1 h2, lastOf, show j + n - 1 = j - 1 + n by omega, Nat.add_mod_right, Nat.mod_eq_of_lt (by omega)]
  have ht0 : t 0 = 0 → v 0 = v (n - 1) := by
    intro h
    rw [ht 0 hn h, lastOf, Nat.zero_add, Nat.mod_eq_of_lt (by omega)]
  have ok := cg_ok hv hnext ht1 n (Nat.le_refl _)
  generalize cg t P n = C at *
  have hpos : 0 < C.length := by
    rcases Nat.eq_zero_or_pos C.length with h | h
    · exfalso
      have h1 := ok.none (List.length_eq_zero_iff.1 h)
      have h2 := (run_pos hv hnext (t := 0) n (by omega) (fun j g1 g2 => ht1 j g1 (by omega) (h1 j (by omega)))).2
      rw [Nat.zero_add, hback] at h2
      exact dir_ne (hv 0 hn).1 (hv 0 hn).2 (d := (n : Int)) (by omega) _ h2.symm
    · exact h
  obtain ⟨a, b, h1, h2, h3, h4, h5, h6, h7⟩ := ok.ends hpos
  have hlast : C[C.length - 1] ≠ C[0] := by
    rw [h3, h4]
    obtain ⟨d, hd⟩ : ∃ d, n = b + d := ⟨n - b, by omega⟩
    obtain ⟨r1, r2⟩ := run_pos hv hnext (t := b) d (by omega) (fun j g1 g2 => ht1 j (by omega) (by omega) (h6 j g1 (by omega)))
    rw [← hd, hback] at r2
    obtain ⟨q1, q2⟩ := run_pos hv hnext (t := 0) a (by omega) (fun j g1 g2 => ht1 j g1 (by omega) (h5 j (by omega)))
    rw [Nat.zero_add] at q2
    by_cases ha : a = 0
    · subst ha
      rw [r2]
      exact fun e => dir_ne (hv b h2).1 (hv b h2).2 (d := (d : Int)) (by omega) _ e.symm
    · have e0 : v 0 = v b := by rw [ht0 (h5 0 (by omega)), r1 (n - 1) (by omega) (by omega)]
      rw [q2, r2, e0]
      intro e
      have e1 : ∀ z : Int, (d : Int) * z + (a : Int) * z = ((d : Int) + a) * z := fun z => (Int.add_mul _ _ _).symm
      simp only [Int.add_assoc, e1] at e
      exact dir_ne (hv b h2).1 (hv b h2).2 (d := (d : Int) + a) (by omega) _ e.symm
  have h2' : 2 ≤ C.length := by
    rcases Nat.lt_or_ge 1 C.length with h | h
    · exact h
    · exfalso
      apply hlast
      congr 1
      omega
  refine ⟨h2', fun i j hi hj e => ?_⟩
  by_cases g : i + 1 < C.length
  · rw [Nat.mod_eq_of_lt g] at e
    subst e
    exact ok.adj i g
  · rw [show i + 1 = C.length by omega, Nat.mod_self] at e
    subst e
    have e3 : C[i] = C[C.length - 1] := by congr 1; omega
    rw [e3]
    exact hlast
theorem cornN_cg (x y : Int) (s : ByteArray) : ∀ k, cornN x y s k = cg (turnT s) (pos x y s) k
  | 0 => rfl
  | k + 1 => by rw [cornN, cg, cornN_cg x y s k]
theorem cornN_round {x y : Int} {s : ByteArray} (bd : Bd x y s) : 2 ≤ (cornN x y s s.size).length ∧ ∀ i j (hi : i < (cornN x y s s.size).length) (hj : j < (cornN x y s s.size).length), j = (i + 1) % (cornN x y s s.size).length → (cornN x y s s.size)[i] ≠ (cornN x y s s.size)[j] := by
  have hlo := bd.lo
  have h := cg_round (n := s.size) (P := pos x y s) (v := way s) (t := turnT s) (by omega) (fun i hi => ⟨(bd.step i hi).letter, (way_in s i).2⟩) (fun k hk => bd.next hk) bd.back (fun j hj h0 => by
    have h1 := (bd.step j hj).letter
    have h2 := (bd.step _ (lastOf_lt (n := s.size) (i := j) (by omega))).letter
    have h3 := (way_in s j).2
    have h4 := (way_in s (lastOf s.size j)).2
    unfold turnT at h0
    omega)
  rw [← cornN_cg] at h
  exact h
theorem cornN_corner {x y : Int} {s : ByteArray} (bd : Bd x y s) : ∀ k, k ≤ s.size → ∀ c ∈ cornN x y s k, corner c
  | 0, _, c, hc => absurd hc (by simp [cornN])
  | k + 1, hk, c, hc => by
    rw [cornN, List.mem_append] at hc
    rcases hc with hc | hc
    · exact cornN_corner bd k (by omega) c hc
    · split at hc
      · cases hc
      · rw [List.mem_singleton] at hc
        subst hc
        exact (bd.step k (by omega)).at0
end Go.Proofs.Ytjplikkehhpomaa
