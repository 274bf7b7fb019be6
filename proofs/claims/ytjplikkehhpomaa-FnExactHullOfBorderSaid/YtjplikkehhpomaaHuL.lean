/- The plain law of HullOfBorder: what the program's chains give is what the reference's round needs. -/
import Derived.Test.YtjplikkehhpomaaHuRev
import Derived.Test.YtjplikkehhpomaaCmpL
import Derived.Test.YtjplikkehhpomaaBdCn
import Derived.Test.YtjplikkehhpomaaHuP
import Derived.Test.YtjplikkehhpomaaHuA
import Derived.Test.YtjplikkehhpomaaAllSpots
set_option linter.unusedVariables false
namespace Go.Proofs.Ytjplikkehhpomaa
open Go.RowKit Go.Sort

theorem srtX_sorted (C : List (Int × Int)) : (srtX C).Pairwise fun a b => a = b ∨ Hull.up a b := by
  have h2 : (srtX C).Pairwise (fun x y => (!(ltOf ordX) y x) = true) := by
    refine List.pairwise_mergeSort (le := fun x y => !(ltOf ordX) y x) (fun a b c h1 h2 => ?_) (fun a b => ?_) C
    · simp only [Bool.not_eq_true'] at *
      rw [ltOf_upf] at *
      unfold Hull.up at *
      omega
    · cases hab : ltOf ordX b a
      · simp
      · have : ltOf ordX a b = false := by rw [ltOf_upf]; rw [ltOf_up] at hab; unfold Hull.up at *; omega
        simp [this]
  refine h2.imp fun {a b} h => ?_
  simp only [Bool.not_eq_true'] at h
  rw [ltOf_upf] at h
  rcases Hull.tri_up a b with e | e | e
  · exact .inl e
  · exact .inr e
  · exact absurd e h
/-- The corners in order, each once. -/
def crnL (C : List (Int × Int)) : List (Int × Int) := cmpL (srtX C)
theorem crn_ok (C : List (Int × Int)) : (crnL C).Pairwise Hull.up ∧ ∀ x, x ∈ crnL C ↔ x ∈ C := by
  obtain ⟨h1, h2⟩ := cmp_ok Hull.dirUp.irr Hull.dirUp.trans (srtX_sorted C)
  refine ⟨h1, fun x => ?_⟩
  rw [crnL, h2]
  exact (List.mergeSort_perm C _).mem_iff
theorem crn_two {C : List (Int × Int)} {a b : Int × Int} (ha : a ∈ C) (hb : b ∈ C) (hne : a ≠ b) : 2 ≤ (crnL C).length := by
  obtain ⟨h1, h2⟩ := crn_ok C
  have ha2 := (h2 a).2 ha
  have hb2 := (h2 b).2 hb
  generalize crnL C = l at *
  match l, ha2, hb2 with
  | [], h, _ => cases h
  | [x], h, h' =>
    rw [List.mem_singleton] at h h'
    exact absurd (h.trans h'.symm) hne
  | _ :: _ :: _, _, _ => simp
/-- The hull, from the first corner in rows on. -/
def hulR (C : List (Int × Int)) : List (Int × Int) := Hull.rotL (Hull.hullL (crnL C)) (Hull.minIx (Hull.hullL (crnL C)) (Hull.hullL (crnL C)).length)
/-- The corner that comes first in rows. -/
def minS (C : List (Int × Int)) (k : Nat) : Int × Int := C.getD (Hull.minIx C k) (0, 0)
theorem minS_succ (C : List (Int × Int)) (k : Nat) : minS C (k + 1) = if Hull.yx (C.getD k (0, 0)) (minS C k) then C.getD k (0, 0) else minS C k := by
  unfold minS
  rw [Hull.minIx]
  split <;> rfl
theorem hul_gift {x y : Int} {s : ByteArray} (bd : Bd x y s) : Hull.Gift (cornN x y s s.size) (hulR (cornN x y s s.size)) (minS (cornN x y s s.size) (cornN x y s s.size).length) := by
  obtain ⟨h2, hr⟩ := cornN_round bd
  generalize cornN x y s s.size = C at *
  obtain ⟨hp, hm⟩ := crn_ok C
  have hl : 2 ≤ (crnL C).length := by
    have h := hr 0 (1 % C.length) (by omega) (Nat.mod_lt _ (by omega)) rfl
    exact crn_two (List.getElem_mem _) (List.getElem_mem _) h
  have hi := Hull.minIx_lt C (by omega) C.length (Nat.le_refl _)
  have hmem : minS C C.length ∈ C := getD_memS hi
  refine Hull.gift_of hp hl (fun c => (hm c).symm) ((hm _).2 hmem) fun c hc => ?_
  obtain ⟨i, hi, rfl⟩ := List.getElem_of_mem ((hm c).1 hc)
  have := Hull.minIx_min C C.length i hi
  rw [show C.getD i (0, 0) = C[i] from by simp [List.getD, List.getElem?_eq_getElem hi]] at this
  rcases Hull.yx_tri C[i] (minS C C.length) with e | e | e
  · exact .inl e
  · exact absurd e this
  · exact .inr e
/-- A chain of two corners or more has two or more. -/
theorem chain_two {lt : Int × Int → Int × Int → Prop} (D : Hull.Dir lt) (tri : ∀ a b, a = b ∨ lt a b ∨ lt b a) {l : List (Int × Int)} (h2 : 2 ≤ l.length) (hp : l.Pairwise lt) : 2 ≤ (Hull.chainS l).length := by
  have c := Hull.chain_ok D tri l (by intro e; simp [e] at h2) hp
  generalize Hull.chainS l = u at *
  have hu0 : 0 < u.length := by
    rcases Nat.eq_zero_or_pos u.length with h | h
    · have := c.hull
      rw [List.length_eq_zero_iff.1 h] at this
      exact absurd this id
    · exact h
  have uh := Hull.last_of c.head (by omega) hu0
  have ul := Hull.last_of (l := u) (st := l) c.last.symm hu0 (by omega)
  rcases Nat.lt_or_ge 1 u.length with h | h
  · exact h
  · exfalso
    have e : l[0] = l[l.length - 1] := by
      rw [← uh, ul]
      congr 1
      omega
    have h3 := List.pairwise_iff_getElem.1 hp 0 (l.length - 1) (by omega) (by omega) (by omega)
    rw [e] at h3
    exact D.irr _ h3
theorem crn_both {C : List (Int × Int)} (h2 : 2 ≤ (crnL C).length) : 2 ≤ (Hull.chainS (crnL C)).length ∧ 2 ≤ (Hull.chainS (crnL C).reverse).length := by
  obtain ⟨hp, _⟩ := crn_ok C
  exact ⟨chain_two Hull.dirUp Hull.tri_up h2 hp, chain_two Hull.dirDn Hull.tri_dn (by rw [List.length_reverse]; exact h2) (by rw [List.pairwise_reverse]; exact hp)⟩
theorem chainS_len (l : List (Int × Int)) : (Hull.chainS l).length ≤ l.length := by
  have h := Hull.outL_len (l := l) l.length (Nat.le_refl _)
  rw [Hull.outL_all, List.length_reverse] at h
  exact h
theorem crn_len (C : List (Int × Int)) : (crnL C).length ≤ C.length := by
  have h := ddN_len (srtX C) (srtX C).length
  rw [srtX_len] at h
  rw [crnL, cmpL, srtX_len]
  exact h
theorem crn_two_bd {x y : Int} {s : ByteArray} (bd : Bd x y s) : 2 ≤ (crnL (cornN x y s s.size)).length := by
  obtain ⟨h2, hr⟩ := cornN_round bd
  generalize cornN x y s s.size = C at *
  have h := hr 0 (1 % C.length) (by omega) (Nat.mod_lt _ (by omega)) rfl
  exact crn_two (List.getElem_mem _) (List.getElem_mem _) h
theorem hulR_len (C : List (Int × Int)) : (hulR C).length ≤ 2 * C.length := by
  have h1 := chainS_len (crnL C)
  have h2 := chainS_len (crnL C).reverse
  have h3 := crn_len C
  have h4 := Hull.minIx_le (Hull.hullL (crnL C)) (Hull.hullL (crnL C)).length
  rw [List.length_reverse] at h2
  have h5 : (Hull.hullL (crnL C)).length = ((Hull.chainS (crnL C)).length - 1) + ((Hull.chainS (crnL C).reverse).length - 1) := by
    unfold Hull.hullL
    rw [List.length_append, List.length_dropLast, List.length_dropLast, List.length_reverse, List.length_reverse]
  unfold hulR Hull.rotL
  rw [List.length_append, List.length_drop, List.length_take]
  omega
theorem ordZ_yx (a b : Int × Int) : decide (ordZ a b < 0) = decide (Hull.yx a b) := by
  have : ordZ a b < 0 ↔ Hull.yx a b := by
    unfold ordZ cmpZ Hull.yx
    split <;> split <;> (try split) <;> (try split) <;> omega
  simp only [this]
theorem cornN_inC {x y : Int} {s : ByteArray} (bd : Bd x y s) : ∀ c ∈ cornN x y s s.size, inC c := fun c hc => by
  obtain ⟨⟨h1, h2⟩, h3, h4⟩ := cornN_corner bd s.size (Nat.le_refl _) c hc
  exact ⟨⟨h1, h2⟩, h3, h4⟩
end Go.Proofs.Ytjplikkehhpomaa
