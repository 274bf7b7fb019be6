/- A law on regions with one call, and a store behind it: a load may be taken first while the store that will change its cell still waits for it. -/
import Derived.Test.YtjplikkehhpomaaSpecElem
import Derived.OrdersHeld
import Derived.RegionTactic
set_option linter.unusedVariables false
namespace Go.Proofs.Ytjplikkehhpomaa
open Go.RowKit
section
variable {P : Program} {ops : Array Oper} {Q : Exit → Act → World → Prop} {md : Region.Mode} {S : Array Bool → World → Prop}

/-- Nothing has come up ahead of what it waits for. -/
def Closed (md : Region.Mode) (ops : Array Oper) (l : Array Bool) : Prop :=
  ∀ (j : Nat) (o : Oper), ops[j]? = some o → l.getD j false = true → ∀ e ∈ o.after, Region.binds md e = true → l.getD e.on false = true
theorem getD_set_self {l : Array Bool} {i k : Nat} (h : (l.setIfInBounds i true).getD k false = true) : k = i ∨ l.getD k false = true := by
  by_cases e : k = i
  · exact .inl e
  · rw [getD_set_ne false (Ne.symm e)] at h
    exact .inr h
theorem Closed.set {l : Array Bool} {i : Nat} (h : Closed md ops l) (hr : i ∈ Region.ready md ops l) : Closed md ops (l.setIfInBounds i true) := by
  obtain ⟨_, o, ho, ha⟩ := mem_ready.1 hr
  intro j oj hj hl e he hb
  rcases getD_set_self hl with rfl | h1
  · rw [ho] at hj
    cases hj
    exact getD_set_true (ha e he hb)
  · exact getD_set_true (h j oj hj h1 e he hb)
/-- Does p wait for i, at so many steps at most? -/
def waits (md : Region.Mode) (ops : Array Oper) : Nat → Nat → Nat → Bool
  | 0, p, i => p == i
  | n + 1, p, i => p == i || match ops[p]? with
    | some o => o.after.any fun e => Region.binds md e && waits md ops n e.on i
    | none => false
theorem Closed.not {l : Array Bool} (h : Closed md ops l) {i : Nat} (hi : l.getD i false = false) : ∀ (n p : Nat), waits md ops n p i = true → l.getD p false = false
  | 0, p, hw => by
    rw [waits, beq_iff_eq] at hw
    rw [hw]
    exact hi
  | n + 1, p, hw => by
    rw [waits, Bool.or_eq_true, beq_iff_eq] at hw
    rcases hw with rfl | hw
    · exact hi
    · cases ho : ops[p]? with
      | none => rw [ho] at hw; cases hw
      | some o =>
        rw [ho] at hw
        obtain ⟨e, he, hb⟩ := Array.any_eq_true'.1 hw
        rw [Bool.and_eq_true] at hb
        have h1 := h.not hi n e.on hb.2
        cases hp : l.getD p false
        · rfl
        · have := h p o ho hp e he hb.1
          rw [h1] at this
          cases this
theorem Closed.ready {l : Array Bool} (h : Closed md ops l) {i j : Nat} (hj : j ∈ Region.ready md ops l) (hi : l.getD i false = false) (hne : j ≠ i) : ∀ n, waits md ops n j i = false
  | 0 => by
    rw [waits, beq_eq_false_iff_ne]
    exact hne
  | n + 1 => by
    obtain ⟨_, oj, hoj, hall⟩ := mem_ready.1 hj
    rw [waits, hoj, Bool.or_eq_false_iff, beq_eq_false_iff_ne]
    refine ⟨hne, ?_⟩
    dsimp only
    rw [Array.any_eq_false']
    intro e he hb
    rw [Bool.and_eq_true] at hb
    have h1 := hall e he hb.1
    rw [h.not hi n e.on hb.2] at h1
    cases h1
/-- Is number i apart from all that has not come up and does not wait for it? -/
def freeW (md : Region.Mode) (ops : Array Oper) (l : Array Bool) (i d : Nat) : Bool :=
  match ops[i]? with
  | some o => (List.range ops.size).all fun j => j == i || (l.getD j true || ((match ops[j]? with | some oj => o.apart ops oj | none => true) || waits md ops d j i))
  | none => false
theorem freeW_spec {l : Array Bool} {i d : Nat} {o : Oper} (ho : ops[i]? = some o) (h : freeW md ops l i d = true) : ∀ j oj, ops[j]? = some oj → j ≠ i → l.getD j true = false → waits md ops d j i = false → o.apart ops oj = true := by
  intro j oj hj hne hl hw
  rw [freeW, ho] at h
  have h1 := List.all_eq_true.1 h j (List.mem_range.2 (Array.getElem?_eq_some_iff.1 hj).1)
  rw [hj] at h1
  simp only [Bool.or_eq_true, beq_iff_eq, hl, hw] at h1
  rcases h1 with h1 | h1 | h1 | h1
  · exact absurd h1 hne
  · cases h1
  · exact h1
  · cases h1
/-- The worlds in which number i may come up. -/
def AtI (md : Region.Mode) (ops : Array Oper) (S : Array Bool → World → Prop) (i : Nat) (w : World) : Prop := ∃ l, Closed md ops l ∧ l.getD i false = false ∧ S l w
/-- Whatever order is picked, and S holds of what has come up and of the world behind each operation. -/
def wpAnyL (P : Program) (md : Region.Mode) (ops : Array Oper) (Q : Exit → Act → World → Prop) (S : Array Bool → World → Prop) : Nat → Array Bool → Act → World → Prop
  | 0, l, a, w => Region.ready md ops l = [] ∧ Q .normal a w
  | n + 1, l, a, w => (Region.ready md ops l = [] → Q .normal a w) ∧
    ∀ i ∈ Region.ready md ops l, wpOp P ops Q i (fun a' w' => S (l.setIfInBounds i true) w' ∧ wpAnyL P md ops Q S n (l.setIfInBounds i true) a' w') a w
theorem wpAny_of_l : ∀ (n : Nat) (l : Array Bool) (a : Act) (w : World), wpAnyL P md ops Q S n l a w → wpAny P md ops Q n l a w
  | 0, _, _, _, h => h
  | n + 1, _, _, _, h => ⟨h.1, fun i hi => wpOp_mono (fun a' w' k => wpAny_of_l n _ a' w' k.2) (h.2 i hi)⟩
theorem getD_un {l : Array Bool} {i : Nat} (h : l.getD i true = false) : l.getD i false = false := by
  rcases Nat.lt_or_ge i l.size with g | g
  · simp [g] at h ⊢
    exact h
  · simp [Array.getElem?_eq_none g] at h
theorem wpAnyL_first {i d : Nat} {o : Oper} {v : Value} (ho : ops[i]? = some o) (hsel : Region.noSelect ops = true) (hQ : ∀ c a w, Q (.panic c) (a.put o.dst v) w → Q (.panic c) a w)
    (hSi : ∀ l w, S (l.setIfInBounds i true) w ↔ S l w) :
    ∀ (n : Nat) (l : Array Bool) (a : Act) (w : World),
      (∀ j oj, ops[j]? = some oj → j ≠ i → l.getD j true = false → waits md ops d j i = false → o.apart ops oj = true) →
      i ∈ Region.ready md ops l → Closed md ops l → YieldsIf P ops (AtI md ops S i) o v a → S l w →
      wpAnyL P md ops Q S n (l.setIfInBounds i true) (a.put o.dst v) w → wpAnyL P md ops Q S (n + 1) l a w := by
  intro n
  induction n with
  | zero =>
    intro l a w _ hr hc hy hS H
    refine ⟨fun h => (by rw [h] at hr; cases hr), fun j hj => ?_⟩
    by_cases e : j = i
    · subst e
      exact hy.wpOp ho ⟨l, hc, getD_un (mem_ready.1 hr).1, hS⟩ ⟨(hSi l w).2 hS, H⟩
    · have h1 := ready_mono hj e
      rw [H.1] at h1
      cases h1
  | succ n ih =>
    intro l a w hf hr hc hy hS H
    refine ⟨fun h => (by rw [h] at hr; cases hr), fun j hj => ?_⟩
    by_cases e : j = i
    · subst e
      exact hy.wpOp ho ⟨l, hc, getD_un (mem_ready.1 hr).1, hS⟩ ⟨(hSi l w).2 hS, H⟩
    · obtain ⟨hjl, oj, hoj, hall⟩ := mem_ready.1 hj
      have hno := hc.ready hj (getD_un (mem_ready.1 hr).1) e d
      have h2 := wpOp_putIf hoj (hf j oj hoj e hjl hno) (fun cs b => Region.noSelect_spec hsel i o cs b ho) (fun cs b => Region.noSelect_spec hsel j oj cs b hoj) hQ hy (H.2 j (ready_mono hj e))
      have hf2 : ∀ k ok, ops[k]? = some ok → k ≠ i → (l.setIfInBounds j true).getD k true = false → waits md ops d k i = false → o.apart ops ok = true := fun k ok hk hki hun hn => by
        refine hf k ok hk hki ?_ hn
        by_cases h : j = k
        · subst h; exact hjl
        · rw [getD_set_ne true h] at hun; exact hun
      refine wpOp_mono (fun a' w' k => ?_) h2
      have hS2 : S (l.setIfInBounds j true) w' := by
        have := k.2.1
        rw [Array.setIfInBounds_comm _ _ (Ne.symm e), hSi] at this
        exact this
      refine ⟨hS2, ih (l.setIfInBounds j true) a' w' hf2 (ready_mono hr (Ne.symm e)) (hc.set hj) k.1 hS2 ?_⟩
      have := k.2.2
      rw [Array.setIfInBounds_comm _ _ (Ne.symm e)] at this
      exact this
/-- One step of the walk. -/
theorem wpAnyL_take {i : Nat} {o : Oper} {v : Value} {n : Nat} {l : Array Bool} {a : Act} {w : World} (hl : ops.toList[i]? = some o) (hsel : Region.noSelect ops = true) (d : Nat) (hf : freeW md ops l i d = true)
    (hr : (Region.ready md ops l).contains i = true) (hQ : ∀ c a w, Q (.panic c) (a.put o.dst v) w → Q (.panic c) a w) (hSi : ∀ l w, S (l.setIfInBounds i true) w ↔ S l w)
    (hc : Closed md ops l) (hy : YieldsIf P ops (AtI md ops S i) o v a) (hS : S l w)
    (h : Closed md ops (l.setIfInBounds i true) → S (l.setIfInBounds i true) w → wpAnyL P md ops Q S n (l.setIfInBounds i true) (a.put o.dst v) w) : wpAnyL P md ops Q S (n + 1) l a w :=
  have ho : ops[i]? = some o := by rw [← Array.getElem?_toList]; exact hl
  wpAnyL_first ho hsel hQ hSi n l a w (freeW_spec ho hf) (by simpa using hr) hc hy hS (h (hc.set (by simpa using hr)) ((hSi l w).2 hS))
theorem wp_region_l {id : Nat} {a : Act} {w : World} (n : Nat) (hn : ops.size = n) (hm : P.follows .mixedOrders = true) (hS : S (Array.replicate n false) w.drew)
    (h : Closed .any ops (Array.replicate n false) → S (Array.replicate n false) w.drew → wpAnyL P .any ops Q S n (Array.replicate n false) a w.drew) : (Code.region id ops true).wp P Q a w := by
  subst hn
  refine wp_region_any hm (wpAny_of_l (S := S) _ _ _ _ (h ?_ hS))
  intro j o _ h
  rw [Array.getD_eq_getD_getElem?, Array.getElem?_replicate] at h
  split at h <;> cases h
/-- One that is carried out. -/
theorem wpOp_at {i : Nat} {o : Oper} {K : Act → World → Prop} {a : Act} {w : World} (hl : ops.toList[i]? = some o) (hw : Region.wanted o (yielded ops a.tmps) = true)
    (h : ∀ K' : Act → World → Prop, (∀ a w, K a w → K' a w) → Oper.wp P o a w K' Q) : wpOp P ops Q i K a w :=
  wpOp_step (by rw [← Array.getElem?_toList]; exact hl) (fun K' hK => by rw [if_pos hw]; exact h K' hK)
/-- The last two. -/
theorem wpAnyL_two {i j n : Nat} {l : Array Bool} {a : Act} {w : World} (hr : Region.ready md ops l = [i, j])
    (h1 : wpOp P ops Q i (fun a' w' => S (l.setIfInBounds i true) w' ∧ wpAnyL P md ops Q S n (l.setIfInBounds i true) a' w') a w)
    (h2 : wpOp P ops Q j (fun a' w' => S (l.setIfInBounds j true) w' ∧ wpAnyL P md ops Q S n (l.setIfInBounds j true) a' w') a w) : wpAnyL P md ops Q S (n + 1) l a w := by
  refine ⟨fun h => (by rw [hr] at h; cases h), fun k hk => ?_⟩
  rw [hr, List.mem_cons, List.mem_singleton] at hk
  rcases hk with rfl | rfl
  · exact h1
  · exact h2
theorem wpAnyL_one {i n : Nat} {l : Array Bool} {a : Act} {w : World} (hr : Region.ready md ops l = [i])
    (h1 : wpOp P ops Q i (fun a' w' => S (l.setIfInBounds i true) w' ∧ wpAnyL P md ops Q S n (l.setIfInBounds i true) a' w') a w) : wpAnyL P md ops Q S (n + 1) l a w := by
  refine ⟨fun h => (by rw [hr] at h; cases h), fun k hk => ?_⟩
  rw [hr, List.mem_singleton] at hk
  subst hk
  exact h1
theorem wpAnyL_done {l : Array Bool} {a : Act} {w : World} (hr : Region.ready md ops l = []) (h : Q .normal a w) : wpAnyL P md ops Q S 0 l a w := ⟨hr, h⟩
end
/-- The world stays as it is till p has come up. -/
def CallS (p : Nat) (wd : World) (l : Array Bool) (w : World) : Prop := l.getD p false = false → w = wd
theorem callS_at {p i : Nat} {wd : World} (hp : i ≠ p) (l : Array Bool) (w : World) : CallS p wd (l.setIfInBounds i true) w ↔ CallS p wd l w := by
  unfold CallS
  rw [getD_set_ne false hp]
theorem atI_w {md : Region.Mode} {ops : Array Oper} {p i : Nat} {wd w : World} (n : Nat) (hw : waits md ops n p i = true) (h : AtI md ops (CallS p wd) i w) : w = wd := by
  obtain ⟨l, hc, hi, h⟩ := h
  exact h (hc.not hi n p hw)
theorem callS_up {p : Nat} {wd w : World} {l : Array Bool} (h : l.getD p false = true) : CallS p wd l w := fun g => by rw [h] at g; cases g
end Go.Proofs.Ytjplikkehhpomaa
