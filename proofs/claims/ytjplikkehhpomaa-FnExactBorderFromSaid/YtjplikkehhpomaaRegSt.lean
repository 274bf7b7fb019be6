/- A law on regions: a load or a call that leaves the world as it is may be taken first, as long as the world is the one at the start. -/
import Derived.Test.YtjplikkehhpomaaRegHC
set_option linter.unusedVariables false
namespace Go.Proofs.Ytjplikkehhpomaa
open Go.RowKit
section
variable {P : Program} {ops : Array Oper} {Q : Exit → Act → World → Prop} {md : Region.Mode} {S : Array Bool → World → Prop} {wd : World}

/-- In world wd the operation leaves v and the world as it is: by itself, or through a call that answers so. -/
def Stays (P : Program) (ops : Array Oper) (wd : World) (o : Oper) (v : Value) (a : Act) : Prop :=
  YieldsIf P ops (fun w => w = wd) o v a ∨
  (Region.wanted o (yielded ops a.tmps) = true ∧ ∃ f args, (execOp a.eval o).run P wd = .ok (.enter f args) wd ∧ Calls P f args wd fun e w' => e = .returned v ∧ w' = wd)
theorem Stays.wpOp {i : Nat} {o : Oper} {v : Value} {a : Act} {K : Act → World → Prop} (hi : ops[i]? = some o) (hy : Stays P ops wd o v a) (h : K (a.put o.dst v) wd) : wpOp P ops Q i K a wd := by
  rcases hy with hy | ⟨hw, f, args, hr, hc⟩
  · exact hy.wpOp hi rfl h
  · unfold Go.wpOp
    simp only [hi, hw, if_true, Oper.wp, hr, Oper.upon]
    refine .inl (hc.mono fun e w' ⟨he, hw'⟩ => ?_)
    subst he hw'
    exact h
theorem Stays.of_same {o : Oper} {v : Value} {a a' : Act} (hy : Stays P ops wd o v a) (he : execOp a'.eval o = execOp a.eval o)
    (hw : Region.wanted o (yielded ops a'.tmps) = Region.wanted o (yielded ops a.tmps)) : Stays P ops wd o v a' := by
  rcases hy with hy | ⟨h1, h2⟩
  · exact .inl (hy.of_same he hw)
  · exact .inr ⟨by rw [hw]; exact h1, by rw [he]; exact h2⟩
theorem Stays.soft {o : Oper} {v : Value} {a : Act} (hy : Stays P ops wd o v a) : YieldsIf P ops (fun _ => False) o v a := by
  rcases hy with hy | ⟨h1, h2⟩
  · rcases hy with ⟨h, _⟩ | h
    · exact .inl ⟨h, fun _ h => h.elim⟩
    · exact .inr h
  · exact .inl ⟨h1, fun _ h => h.elim⟩
/-- What an operation does not touch stays so behind it. -/
theorem wpOp_keep {j : Nat} {oj : Oper} (hj : ops[j]? = some oj) {R : Act → Prop} (hR : ∀ a u, R a → R (a.put oj.dst u)) (hD : ∀ (a : Act) d, R a → R { a with defers := d :: a.defers })
    {K : Act → World → Prop} {a : Act} {w : World} (hr : R a) (h : wpOp P ops Q j K a w) : wpOp P ops Q j (fun a' w' => R a' ∧ K a' w') a w := by
  unfold Go.wpOp at *
  simp only [hj] at *
  by_cases hw : Region.wanted oj (yielded ops a.tmps) = true
  · simp only [hw, if_true] at h ⊢
    rcases h with h | h
    · refine .inl ?_
      unfold Oper.wp at *
      generalize (execOp a.eval oj).run P w = r at *
      cases r with
      | ok n w' =>
        cases n with
        | value u => exact ⟨hR _ u hr, h⟩
        | skip => exact ⟨hR _ _ hr, h⟩
        | defer d => exact ⟨hR _ _ (hD _ d hr), h⟩
        | enter f args =>
          exact Calls.mono h fun e w'' he => by
            cases e with
            | returned u => exact ⟨hR _ u hr, he⟩
            | panicked c => exact he
            | outgrown => exact he
        | row r args => exact Rows.mono h fun u w'' he => ⟨hR _ u hr, he⟩
        | _ => exact h
      | halt x w' => cases x <;> exact h
    · exact .inr h
  · simp only [hw, if_false] at h ⊢
    exact ⟨hR _ _ hr, h⟩
theorem wpAnyL_firstS {i d : Nat} {o : Oper} {v : Value} (ho : ops[i]? = some o) (hsel : Region.noSelect ops = true) (hQ : ∀ c a w, Q (.panic c) (a.put o.dst v) w → Q (.panic c) a w)
    (hSi : ∀ l w, S (l.setIfInBounds i true) w ↔ S l w) (hat : ∀ w, AtI md ops S i w → w = wd) :
    ∀ (n : Nat) (l : Array Bool) (a : Act) (w : World),
      (∀ j oj, ops[j]? = some oj → j ≠ i → l.getD j true = false → waits md ops d j i = false → o.apart ops oj = true) →
      i ∈ Region.ready md ops l → Closed md ops l → Stays P ops wd o v a → S l w →
      wpAnyL P md ops Q S n (l.setIfInBounds i true) (a.put o.dst v) w → wpAnyL P md ops Q S (n + 1) l a w := by
  intro n
  induction n with
  | zero =>
    intro l a w _ hr hc hy hS H
    refine ⟨fun h => (by rw [h] at hr; cases hr), fun j hj => ?_⟩
    by_cases e : j = i
    · subst e
      obtain rfl := hat w ⟨l, hc, getD_un (mem_ready.1 hr).1, hS⟩
      exact hy.wpOp ho ⟨(hSi l w).2 hS, H⟩
    · have h1 := ready_mono hj e
      rw [H.1] at h1
      cases h1
  | succ n ih =>
    intro l a w hf hr hc hy hS H
    refine ⟨fun h => (by rw [h] at hr; cases hr), fun j hj => ?_⟩
    by_cases e : j = i
    · subst e
      obtain rfl := hat w ⟨l, hc, getD_un (mem_ready.1 hr).1, hS⟩
      exact hy.wpOp ho ⟨(hSi l w).2 hS, H⟩
    · obtain ⟨hjl, oj, hoj, hall⟩ := mem_ready.1 hj
      have hno := hc.ready hj (getD_un (mem_ready.1 hr).1) e d
      have hap := hf j oj hoj e hjl hno
      obtain ⟨_, _, h3⟩ := Oper.apart_spec hap
      have h2 := wpOp_putIf hoj hap (fun cs b => Region.noSelect_spec hsel i o cs b ho) (fun cs b => Region.noSelect_spec hsel j oj cs b hoj) hQ hy.soft (H.2 j (ready_mono hj e))
      have h2 := wpOp_keep (R := Stays P ops wd o v) hoj
        (fun a u hy => hy.of_same (execOp_put o (fun cs b => Region.noSelect_spec hsel i o cs b ho) a oj.dst u h3) (wanted_put o a oj.dst u h3)) (fun a d hy => hy.of_same rfl rfl) hy h2
      have hf2 : ∀ k ok, ops[k]? = some ok → k ≠ i → (l.setIfInBounds j true).getD k true = false → waits md ops d k i = false → o.apart ops ok = true := fun k ok hk hki hun hn => by
        refine hf k ok hk hki ?_ hn
        by_cases h : j = k
        · subst h; exact hjl
        · rw [getD_set_ne true h] at hun; exact hun
      refine wpOp_mono (fun a' w' k => ?_) h2
      have k' := k.2.2
      have hS2 : S (l.setIfInBounds j true) w' := by
        have := k'.1
        rw [Array.setIfInBounds_comm _ _ (Ne.symm e), hSi] at this
        exact this
      refine ⟨hS2, ih (l.setIfInBounds j true) a' w' hf2 (ready_mono hr (Ne.symm e)) (hc.set hj) k.1 hS2 ?_⟩
      have := k'.2
      rw [Array.setIfInBounds_comm _ _ (Ne.symm e)] at this
      exact this
/-- One step of the walk: one that stays. -/
theorem wpAnyL_stay {i : Nat} {o : Oper} {v : Value} {n : Nat} {l : Array Bool} {a : Act} {w : World} (hl : ops.toList[i]? = some o) (hsel : Region.noSelect ops = true) (d : Nat) (hf : freeW md ops l i d = true)
    (hr : (Region.ready md ops l).contains i = true) (hQ : ∀ c a w, Q (.panic c) (a.put o.dst v) w → Q (.panic c) a w) (hSi : ∀ l w, S (l.setIfInBounds i true) w ↔ S l w) (hat : ∀ w, AtI md ops S i w → w = wd)
    (hc : Closed md ops l) (hy : Stays P ops wd o v a) (hS : S l w)
    (h : Closed md ops (l.setIfInBounds i true) → S (l.setIfInBounds i true) w → wpAnyL P md ops Q S n (l.setIfInBounds i true) (a.put o.dst v) w) : wpAnyL P md ops Q S (n + 1) l a w :=
  have ho : ops[i]? = some o := by rw [← Array.getElem?_toList]; exact hl
  wpAnyL_firstS ho hsel hQ hSi hat n l a w (freeW_spec ho hf) (by simpa using hr) hc hy hS (h (hc.set (by simpa using hr)) ((hSi l w).2 hS))
end
/-- The world stays as it is. -/
def StillS (wd : World) (_ : Array Bool) (w : World) : Prop := w = wd
theorem stillS_at {i : Nat} {wd : World} (l : Array Bool) (w : World) : StillS wd (l.setIfInBounds i true) w ↔ StillS wd l w := Iff.rfl
theorem stillS_w {md : Region.Mode} {ops : Array Oper} {i : Nat} {wd w : World} (h : AtI md ops (StillS wd) i w) : w = wd := h.choose_spec.2.2
end Go.Proofs.Ytjplikkehhpomaa
