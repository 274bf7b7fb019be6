/- The reference's walk from corner to corner, in plain words. -/
import Derived.Test.YtjplikkehhpomaaBfB
set_option linter.unusedVariables false
set_option linter.unusedSimpArgs false
namespace Go.Proofs.Ytjplikkehhpomaa
open Go.RowKit

/-- The first way that leads there is the right one. -/
theorem okW_found {a b : Int × Int} {v : Nat} (hv : v < 4) (h : okW a b v = true) (hno : ∀ u : Nat, u < v → okW a b u = false) :
    alB a b = true ∧ b.1 = a.1 + (stepN a b : Int) * dX v ∧ b.2 = a.2 + (stepN a b : Int) * dY v ∧ (a ≠ b → wayC v = stepC a b) := by
  have hal : alB a b = true := by
    cases e : alB a b
    · rw [okW_none e v hv] at h; cases h
    · rfl
  obtain ⟨u, hu, h1, h2, h3, h4, h5⟩ := okW_first hal
  have : u = v := by
    rcases Nat.lt_trichotomy u v with g | g | g
    · rw [hno u g] at h1; cases h1
    · exact g
    · rw [h2 v g] at h; cases h
  subst this
  exact ⟨hal, h3, h4, h5⟩
theorem okW_all {a b : Int × Int} (hno : ∀ u : Nat, u < 4 → okW a b u = false) : alB a b = false := by
  cases e : alB a b
  · rfl
  · obtain ⟨u, hu, h1, _⟩ := okW_first e
    rw [hno u hu] at h1; cases h1
/-- So many letters of way v. -/
def wayT (v s : Nat) : ByteArray := ⟨(List.replicate s (wayC v)).toArray⟩
theorem wayT_stepT {a b : Int × Int} {v : Nat} (h : a ≠ b → wayC v = stepC a b) : wayT v (stepN a b) = stepT a b := by
  by_cases e : a = b
  · subst e
    have : stepN a a = 0 := by simp [stepN]
    rw [wayT, stepT, this]
    rfl
  · rw [wayT, stepT, h e]
    congr 2
    generalize stepN a b = n
    induction n with
    | zero => rfl
    | succ n ih => rw [List.replicate_succ, ih]; rfl
theorem wayT_size (v s : Nat) : (wayT v s).size = s := by
  show (List.replicate s (wayC v)).toArray.size = s
  simp
/-- The bytes of a string, as cells. -/
def byteCs (s : ByteArray) : List Value := s.data.toList.map fun c => .int .u8 (c.toNat : Int)
theorem byteCs_push (B : ByteArray) (v s : Nat) : byteCs (B ++ wayT v (s + 1)) = byteCs (B ++ wayT v s) ++ [.int .u8 ((wayC v).toNat : Int)] := by
  have h : List.replicate (s + 1) (wayC v) = List.replicate s (wayC v) ++ [wayC v] := List.replicate_succ'
  simp only [byteCs, ByteArray.data_append, Array.toList_append, wayT, List.toArray_replicate, Array.toList_replicate, h, List.map_append, List.map_cons, List.map_nil, List.append_assoc]
theorem wayT_zero (B : ByteArray) (v : Nat) : B ++ wayT v 0 = B := by
  rw [show wayT v 0 = ByteArray.empty from rfl, ByteArray.append_empty]
/-- Where the walk stands that has not come to its end, it is not there. -/
theorem walk_ne {v s N : Nat} (hv : v < 4) (hs : s < N) (x y : Int) : ¬ (x + (s : Int) * dX v = x + (N : Int) * dX v ∧ y + (s : Int) * dY v = y + (N : Int) * dY v) := by
  have : v = 0 ∨ v = 1 ∨ v = 2 ∨ v = 3 := by omega
  rcases this with rfl | rfl | rfl | rfl <;> simp [dX, dY] <;> omega
theorem walk_in {v s N : Nat} (hv : v < 4) (hs : s ≤ N) (hN : N ≤ 16) : (-16 ≤ (s : Int) * dX v ∧ (s : Int) * dX v ≤ 16) ∧ -16 ≤ (s : Int) * dY v ∧ (s : Int) * dY v ≤ 16 := by
  have : v = 0 ∨ v = 1 ∨ v = 2 ∨ v = 3 := by omega
  rcases this with rfl | rfl | rfl | rfl <;> simp [dX, dY] <;> omega
theorem walk_next (s : Nat) (d : Int) : ((s + 1 : Nat) : Int) * d = (s : Int) * d + d := by
  rw [Int.natCast_add, Int.add_mul]; simp
/-- The letters of the ways, one by one. -/
theorem wayC_at {v : Nat} (hv : v < 4) : ∃ h : v < (⟨#[114, 100, 108, 117]⟩ : ByteArray).size, (⟨#[114, 100, 108, 117]⟩ : ByteArray)[v] = wayC v := by
  have : v = 0 ∨ v = 1 ∨ v = 2 ∨ v = 3 := by omega
  rcases this with rfl | rfl | rfl | rfl <;> exact ⟨by decide, rfl⟩
/-- The length of a slice. -/
def lenOfV : Value → Nat
  | .slice _ n _ => n
  | _ => 0
end Go.Proofs.Ytjplikkehhpomaa
