/- A law on drawn regions that store nothing: they may be walked in the order of their numbers, calls and all; behind them stands some world that has grown. -/
import Derived.Test.YtjplikkehhpomaaRegHC
set_option linter.unusedVariables false
namespace Go.Proofs.Ytjplikkehhpomaa
open Go.RowKit
section
variable {P : Program} {ops : Array Oper} {Q : Exit → Act → World → Prop} {md : Region.Mode} {S : World → Prop}

/-- In every world of S the operation leaves v, and a world of S: by itself, or through a call that answers so. -/
def Calm (P : Program) (ops : Array Oper) (S : World → Prop) (o : Oper) (v : Value) (a : Act) : Prop :=
  (Region.wanted o (yielded ops a.tmps) = false ∧ v = undef) ∨
  (Region.wanted o (yielded ops a.tmps) = true ∧ ((∀ w, S w → (execOp a.eval o).run P w = .ok (.value v) w) ∨
    ∃ f args, ∀ w, S w → (execOp a.eval o).run P w = .ok (.enter f args) w ∧ Calls P f args w fun e w' => e = .returned v ∧ S w'))
theorem Calm.wpOp {i : Nat} {o : Oper} {v : Value} {a : Act} {w : World} {K : Act → World → Prop} (hi : ops[i]? = some o) (hy : Calm P ops S o v a) (hS : S w) (h : ∀ w', S w' → K (a.put o.dst v) w') : wpOp P ops Q i K a w := by
  unfold Go.wpOp
  simp only [hi]
  rcases hy with ⟨hw, rfl⟩ | ⟨hw, hy⟩
  · simp only [hw, Bool.false_eq_true, if_false]
    exact h w hS
  · simp only [hw, if_true]
    refine .inl ?_
    rcases hy with hy | ⟨f, args, hy⟩
    · simp only [Oper.wp, hy w hS, Oper.upon]
      exact h w hS
    · obtain ⟨h1, h2⟩ := hy w hS
      simp only [Oper.wp, h1, Oper.upon]
      refine h2.mono fun e w' ⟨he, hw'⟩ => ?_
      subst he
      exact h w' hw'
theorem Calm.of_same {o : Oper} {v : Value} {a a' : Act} (hy : Calm P ops S o v a) (he : execOp a'.eval o = execOp a.eval o)
    (hw : Region.wanted o (yielded ops a'.tmps) = Region.wanted o (yielded ops a.tmps)) : Calm P ops S o v a' := by
  unfold Calm at *
  rw [he, hw]
  exact hy
/-- A walk through the operations that are named, one by one. -/
def Chain (P : Program) (ops : Array Oper) (S : World → Prop) (K : Act → Prop) : List Nat → Act → Prop
  | [], a => K a
  | i :: r, a => ∃ o v, ops[i]? = some o ∧ Calm P ops S o v a ∧ Chain P ops S K r (a.put o.dst v)
/-- Two that have nothing to do with one another change places. -/
theorem Chain.swap {K : Act → Prop} {i j : Nat} {r : List Nat} {a : Act} {oi oj : Oper} (hi : ops[i]? = some oi) (hj : ops[j]? = some oj) (hap : oi.apart ops oj = true) (hsel : Region.noSelect ops = true)
    (h : Chain P ops S K (j :: i :: r) a) : Chain P ops S K (i :: j :: r) a := by
  obtain ⟨o1, v1, e1, c1, o2, v2, e2, c2, rest⟩ := h
  rw [hj] at e1
  rw [hi] at e2
  cases e1
  cases e2
  obtain ⟨h1, h2, h3⟩ := Oper.apart_spec hap
  have si := fun cs b => Region.noSelect_spec hsel i oi cs b hi
  have sj := fun cs b => Region.noSelect_spec hsel j oj cs b hj
  refine ⟨oi, v2, hi, ?_, oj, v1, hj, ?_, ?_⟩
  · exact c2.of_same (execOp_put oi si a oj.dst v1 h3).symm (wanted_put oi a oj.dst v1 h3).symm
  · exact c1.of_same (execOp_put oj sj a oi.dst v2 h1) (wanted_put oj a oi.dst v2 h1)
  · rw [Act.put_comm a v2 v1 h2]
    exact rest
theorem Chain.front {K : Act → Prop} {i : Nat} {oi : Oper} (hi : ops[i]? = some oi) (hsel : Region.noSelect ops = true) : ∀ (r1 r2 : List Nat) (a : Act), (∀ j ∈ r1, ∀ oj, ops[j]? = some oj → oi.apart ops oj = true) → Chain P ops S K (r1 ++ i :: r2) a → Chain P ops S K (i :: (r1 ++ r2)) a
  | [], r2, a, _, h => h
  | j :: r1, r2, a, hap, h => by
    obtain ⟨oj, vj, ej, cj, rest⟩ := h
    have h1 := Chain.front hi hsel r1 r2 _ (fun k hk => hap k (List.mem_cons_of_mem _ hk)) rest
    exact Chain.swap hi ej (hap j List.mem_cons_self oj ej) hsel ⟨oj, vj, ej, cj, h1⟩
/-- Of two operations the later one waits for the earlier one, or they have nothing to do with one another; and none waits for a later one. -/
def calmOk (md : Region.Mode) (ops : Array Oper) (d : Nat) : Bool :=
  Region.noSelect ops && (List.range ops.size).all fun i => (match ops[i]? with
    | some o => o.after.all fun e => !(Region.binds md e) || decide (e.on < i)
    | none => true) && (List.range i).all fun j =>
    waits md ops d i j || match ops[i]?, ops[j]? with
      | some oi, some oj => oi.apart ops oj
      | _, _ => true
theorem getD_set_true' {l : Array Bool} {i : Nat} {b : Bool} (h : i < l.size) : (l.setIfInBounds i true).getD i b = true := by simp [h]
theorem calm_any {K : Act → Prop} {d : Nat} (hok : calmOk md ops d = true) (hK : ∀ a w, K a → S w → Q .normal a w) :
    ∀ (n : Nat) (l : Array Bool) (r : List Nat) (a : Act) (w : World), r.length = n → r.Pairwise (· < ·) → (∀ i, i ∈ r ↔ i < ops.size ∧ l.getD i true = false) → l.size = ops.size → Closed md ops l → S w → Chain P ops S K r a → wpAny P md ops Q n l a w := by
  rw [calmOk, Bool.and_eq_true] at hok
  obtain ⟨hsel, hok⟩ := hok
  have hno : ∀ (l : Array Bool) (r : List Nat), (∀ i, i ∈ r ↔ i < ops.size ∧ l.getD i true = false) → ∀ i ∈ Region.ready md ops l, i ∈ r := fun l r hr i hi => by
    obtain ⟨h1, o, ho, _⟩ := mem_ready.1 hi
    exact (hr i).2 ⟨(Array.getElem?_eq_some_iff.1 ho).1, h1⟩
  intro n
  induction n with
  | zero =>
    intro l r a w hl hp hr hz hc hS h
    obtain rfl : r = [] := List.length_eq_zero_iff.1 hl
    refine ⟨?_, hK _ _ h hS⟩
    cases e : Region.ready md ops l with
    | nil => rfl
    | cons i t =>
      have := hno l [] hr i (by rw [e]; exact List.mem_cons_self)
      cases this
  | succ n ih =>
    intro l r a w hl hp hr hz hc hS h
    refine ⟨fun hnone => ?_, fun i hi => ?_⟩
    · exfalso
      -- the first of r may come up
      obtain ⟨i, t, rfl⟩ := List.exists_cons_of_length_eq_add_one hl
      obtain ⟨o, v, ho, _⟩ := h
      have hi := (hr i).1 List.mem_cons_self
      have h1 := List.all_eq_true.1 hok i (List.mem_range.2 hi.1)
      rw [Bool.and_eq_true, ho] at h1
      have h2 := Array.all_eq_true_iff_forall_mem.1 h1.1
      have hrd : i ∈ Region.ready md ops l := mem_ready.2 ⟨hi.2, o, ho, fun e he hb => by
        have h3 := h2 e he
        rw [hb, Bool.not_true, Bool.false_or, decide_eq_true_eq] at h3
        have h4 : e.on ∉ i :: t := fun hm => by
          rcases List.mem_cons.1 hm with h5 | h5
          · omega
          · have := (List.pairwise_cons.1 hp).1 _ h5
            omega
        have h5 : l.getD e.on true = true := by
          cases h6 : l.getD e.on true
          · exact absurd ((hr e.on).2 ⟨by omega, h6⟩) h4
          · rfl
        have h7 : e.on < l.size := by omega
        simp [h7] at h5 ⊢
        exact h5⟩
      rw [hnone] at hrd
      cases hrd
    · have him := hno l r hr i hi
      obtain ⟨r1, r2, rfl⟩ := List.append_of_mem him
      obtain ⟨hun, oi, hoi, _⟩ := mem_ready.1 hi
      have hap : ∀ j ∈ r1, ∀ oj, ops[j]? = some oj → oi.apart ops oj = true := fun j hj oj hoj => by
        have hji : j < i := (List.pairwise_append.1 hp).2.2 j hj i List.mem_cons_self
        have h1 := List.all_eq_true.1 hok i (List.mem_range.2 (Array.getElem?_eq_some_iff.1 hoi).1)
        rw [Bool.and_eq_true] at h1
        have h2 := List.all_eq_true.1 h1.2 j (List.mem_range.2 hji)
        have h3 : waits md ops d i j = false := hc.ready hi (getD_un ((hr j).1 (List.mem_append_left _ hj)).2) (by omega) d
        rw [h3, Bool.false_or, hoi, hoj] at h2
        exact h2
      obtain ⟨o, v, ho, cy, rest⟩ := Chain.front hoi hsel r1 r2 a hap h
      rw [hoi] at ho
      cases ho
      refine cy.wpOp hoi hS fun w' hS' => ?_
      refine ih (l.setIfInBounds i true) (r1 ++ r2) _ w' (by simp at hl ⊢; omega) ?_ (fun k => ?_) (by simp [hz]) (hc.set hi) hS' rest
      · have h1 := List.pairwise_append.1 hp
        exact List.pairwise_append.2 ⟨h1.1, (List.pairwise_cons.1 h1.2.1).2, fun x hx y hy => h1.2.2 x hx y (List.mem_cons_of_mem _ hy)⟩
      · have hk := hr k
        have hlt := (Array.getElem?_eq_some_iff.1 hoi).1
        rw [List.mem_append, List.mem_cons] at hk
        rw [List.mem_append]
        by_cases e : k = i
        · subst e
          have hq := List.pairwise_append.1 hp
          rw [getD_set_true' (by omega)]
          simp only [Bool.true_eq_false, and_false, iff_false]
          rintro (h | h)
          · exact Nat.lt_irrefl _ (hq.2.2 _ h _ List.mem_cons_self)
          · exact Nat.lt_irrefl _ ((List.pairwise_cons.1 hq.2.1).1 _ h)
        · rw [getD_set_ne true (Ne.symm e), ← hk]
          simp [e]
theorem wp_region_calm {id n : Nat} (d : Nat) {rs : List Nat} {a : Act} {w : World} (hn : ops.size = n) (hrs : List.range n = rs) (hm : P.follows .mixedOrders = true) (hok : calmOk .any ops d = true) (hS : S w.drew)
    (h : Chain P ops S (fun a' => ∀ w', S w' → Q .normal a' w') rs a) : (Code.region id ops true).wp P Q a w := by
  subst hrs
  subst hn
  refine wp_region_any hm (calm_any hok (fun a w h hS => h w hS) _ _ _ _ _ (List.length_range) List.pairwise_lt_range (fun i => ?_) (by simp) ?_ hS h)
  · rw [List.mem_range]
    constructor
    · intro h; exact ⟨h, by simp [h]⟩
    · exact fun h => h.1
  · intro j o _ h
    rw [Array.getD_eq_getD_getElem?, Array.getElem?_replicate] at h
    split at h <;> cases h
theorem Chain.step {K : Act → Prop} {i : Nat} {r : List Nat} {a : Act} {o : Oper} {v : Value} (hl : ops.toList[i]? = some o) (hc : Calm P ops S o v a) (h : Chain P ops S K r (a.put o.dst v)) : Chain P ops S K (i :: r) a :=
  ⟨o, v, by rw [← Array.getElem?_toList]; exact hl, hc, h⟩
end
end Go.Proofs.Ytjplikkehhpomaa
