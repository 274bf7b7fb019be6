/- The plain law of FactorElement: the first offset with which a part of the element sums to it. -/
import Derived.Test.YtheakjbbfdcbaaaFacS
set_option linter.unusedVariables false
set_option linter.unusedSimpArgs false
namespace Go.Proofs.Ytheakjbbfdcbaaa
open Go.RowKit Go.Sort

/-- Candidate number t. -/
def vC (t : Nat) : Int × Int := (((t % 9 : Nat) : Int) - 4, ((t / 9 : Nat) : Int))
theorem vC_at {i : Nat} (y : Nat) (h : i < 9) : vC (9 * y + i) = ((i : Int) - 4, (y : Int)) := by
  have h1 : (9 * y + i) % 9 = i := by omega
  have h2 : (9 * y + i) / 9 = y := by omega
  rw [vC, h1, h2]
/-- The first k offsets that stay inside behind a step. -/
def restN (e : List (Int × Int)) (v : Int × Int) (k : Nat) : List (Int × Int) := (e.take k).filter fun s => decide (addS s v ∈ e)
def restL (e : List (Int × Int)) (v : Int × Int) : List (Int × Int) := e.filter fun s => decide (addS s v ∈ e)
theorem restN_zero (e : List (Int × Int)) (v : Int × Int) : restN e v 0 = [] := by simp [restN]
theorem restN_all (e : List (Int × Int)) (v : Int × Int) : restN e v e.length = restL e v := by rw [restN, List.take_of_length_le (Nat.le_refl _), restL]
theorem restN_yes {e : List (Int × Int)} {v s : Int × Int} {k : Nat} (h : k < e.length) (hs : e.getD k (0, 0) = s) (hm : addS s v ∈ e) : restN e v (k + 1) = restN e v k ++ [s] := by
  have e1 : e.getD k (0, 0) = e[k] := by simp [List.getD, List.getElem?_eq_getElem h]
  subst hs
  rw [restN, List.take_succ_eq_append_getElem h, List.filter_append, restN]
  rw [e1] at hm ⊢
  simp [hm]
theorem restN_no {e : List (Int × Int)} {v s : Int × Int} {k : Nat} (h : k < e.length) (hs : e.getD k (0, 0) = s) (hm : ¬ addS s v ∈ e) : restN e v (k + 1) = restN e v k := by
  have e1 : e.getD k (0, 0) = e[k] := by simp [List.getD, List.getElem?_eq_getElem h]
  subst hs
  rw [restN, List.take_succ_eq_append_getElem h, List.filter_append, restN]
  rw [e1] at hm
  simp [hm]
theorem restN_len (e : List (Int × Int)) (v : Int × Int) (k : Nat) : (restN e v k).length ≤ k := by
  have h1 := List.length_filter_le (fun s => decide (addS s v ∈ e)) (e.take k)
  rw [List.length_take] at h1
  rw [restN]
  omega
theorem restL_len (e : List (Int × Int)) (v : Int × Int) : (restL e v).length ≤ e.length := List.length_filter_le _ _
theorem restL_small {e : List (Int × Int)} (v : Int × Int) (h : Small e) : Small (restL e v) := fun s hs => h s (List.mem_filter.1 hs).1
/-- Does the step serve? -/
def facT (e : List (Int × Int)) (v : Int × Int) : Bool := befB (0, 0) v && decide (setL (sumL [(0, 0), v] (restL e v)) = e)
def facN (e : List (Int × Int)) : Nat → Option (Int × Int)
  | 0 => none
  | t + 1 => match facN e t with
    | some v => some v
    | none => if facT e (vC t) then some (vC t) else none
theorem facN_keep {e : List (Int × Int)} {t : Nat} {v : Int × Int} (h : facN e t = some v) : ∀ k, facN e (t + k) = some v
  | 0 => h
  | k + 1 => by
    rw [← Nat.add_assoc, facN, facN_keep h k]
theorem facN_hit {e : List (Int × Int)} {t : Nat} {v : Int × Int} (h : facN e t = none) (hv : vC t = v) (hT : facT e v = true) {n : Nat} (hn : t < n) : facN e n = some v := by
  have h1 : facN e (t + 1) = some v := by rw [facN, h, hv, hT]; rfl
  have := facN_keep h1 (n - (t + 1))
  rwa [show t + 1 + (n - (t + 1)) = n by omega] at this
theorem facN_miss {e : List (Int × Int)} {t : Nat} {v : Int × Int} (h : facN e t = none) (hv : vC t = v) (hT : facT e v = false) : facN e (t + 1) = none := by rw [facN, h, hv, hT]; rfl
def facR (e : List (Int × Int)) : Option (Int × Int) := if okEl e then facN e 45 else none
def facOk (e : List (Int × Int)) : Bool := (facR e).isSome
def facA (e : List (Int × Int)) : List (Int × Int) := match facR e with | some v => [(0, 0), v] | none => []
def facB (e : List (Int × Int)) : List (Int × Int) := match facR e with | some v => restL e v | none => []
theorem facA_len (e : List (Int × Int)) : (facA e).length ≤ 1048576 := by
  unfold facA
  split <;> simp
theorem facB_len (e : List (Int × Int)) : (facB e).length ≤ 1048576 := by
  unfold facB
  split
  · rename_i v h
    unfold facR at h
    split at h
    · rename_i hok
      have := restL_len e v
      have := (okEl_in hok).2.2
      omega
    · cases h
  · simp
theorem fac_none {e : List (Int × Int)} (h : facR e = none) : facOk e = false ∧ facA e = [] ∧ facB e = [] := by simp [facOk, facA, facB, h]
theorem fac_some {e : List (Int × Int)} {v : Int × Int} (h : facR e = some v) : facOk e = true ∧ facA e = [(0, 0), v] ∧ facB e = restL e v := by simp [facOk, facA, facB, h]
theorem facR_bad {e : List (Int × Int)} (h : okEl e = false) : facR e = none := by simp [facR, h]
theorem facR_ok {e : List (Int × Int)} (h : okEl e = true) : facR e = facN e 45 := by simp [facR, h]
theorem ord_bef0 (x y : Int) : decide (ordZ (x, y) (0, 0) ≤ 0) = !befB (0, 0) (x, y) := by
  unfold ordZ cmpZ befB
  dsimp only
  rcases Int.lt_trichotomy y 0 with h | h | h <;> rcases Int.lt_trichotomy x 0 with g | g | g <;> simp [h, g] <;> omega
/-- A list of two spots in a block of its own. -/
theorem own_two (B : Nat) (w : World) (s t : Int × Int) (hB : B ≤ w.heap.size) :
    OwnSpots B (w.alloc (.cells #[.int .i64 s.1, .int .i64 s.2, .int .i64 t.1, .int .i64 t.2] 45)) (.slice (some ⟨w.heap.size, 0, none⟩) 2 2) [s, t] :=
  ⟨_, _, rfl, by simp [spotCells, List.flatMap], .inr ⟨w.heap.size, 2, _, rfl, hB, heap_alloc_new w _, Nat.le_refl _, by decide, rfl, by simp [spotCells]⟩⟩
end Go.Proofs.Ytheakjbbfdcbaaa
