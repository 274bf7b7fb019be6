/- The plain law of hulls: the chain of sorted corners is what the wrapping finds. -/
import Derived.Test.YtjplikkehhpomaaBase
set_option linter.unusedVariables false
namespace Go.Proofs.Ytjplikkehhpomaa.Hull

/-- Twice the area of a triangle, signed. -/
def crs (a b c : Int × Int) : Int := (b.1 - a.1) * (c.2 - a.2) - (b.2 - a.2) * (c.1 - a.1)
def bendZ (a b c : Int × Int) : Int := (b.1 - a.1) * (c.2 - b.2) - (b.2 - a.2) * (c.1 - b.1)
def farS (a b : Int × Int) : Int := (a.1 - b.1) * (a.1 - b.1) + (a.2 - b.2) * (a.2 - b.2)
def det (u v : Int × Int) : Int := u.1 * v.2 - u.2 * v.1
def Pos (u : Int × Int) : Prop := 0 < u.1 ∨ (u.1 = 0 ∧ 0 < u.2)
def vec (a b : Int × Int) : Int × Int := (b.1 - a.1, b.2 - a.2)
theorem crs_det (a b c : Int × Int) : crs a b c = det (vec a b) (vec a c) := rfl
theorem bend_crs (a b c : Int × Int) : bendZ a b c = crs a b c := by
  unfold bendZ crs
  grind
theorem ang {a b c d e f : Int} (h1 : 0 < a ∨ (a = 0 ∧ 0 < b)) (h2 : 0 < c ∨ (c = 0 ∧ 0 < d)) (h3 : 0 < e ∨ (e = 0 ∧ 0 < f)) (k1 : 0 ≤ a * d - b * c) (k2 : 0 ≤ c * f - d * e) :
    0 ≤ a * f - b * e ∧ (0 < a * d - b * c ∨ 0 < c * f - d * e → 0 < a * f - b * e) := by
  have i1 : c * (a * f - b * e) = a * (c * f - d * e) + e * (a * d - b * c) := by grind
  rcases h2 with hc | ⟨rfl, hd⟩
  · have ha : 0 ≤ a := by omega
    have he : 0 ≤ e := by omega
    have p1 := Int.mul_nonneg ha k2
    have p2 := Int.mul_nonneg he k1
    refine ⟨?_, ?_⟩
    · rcases Int.lt_or_le (a * f - b * e) 0 with h | h
      · have := Int.mul_neg_of_pos_of_neg hc h
        omega
      · exact h
    · intro hs
      have ha0 : 0 < a := by
        rcases h1 with h | ⟨rfl, hb⟩
        · exact h
        · have := Int.mul_pos hb hc
          omega
      have hp : 0 < a * (c * f - d * e) + e * (a * d - b * c) ∨ 0 < a * f - b * e := by
        rcases hs with hs | hs
        · rcases h3 with h | ⟨rfl, hf⟩
          · have := Int.mul_pos h hs
            exact .inl (by omega)
          · have := Int.mul_pos ha0 hf
            exact .inr (by omega)
        · have := Int.mul_pos ha0 hs
          exact .inl (by omega)
      rcases hp with hp | hp
      · rcases Int.lt_or_le 0 (a * f - b * e) with h | h
        · exact h
        · have := Int.mul_nonpos_of_nonneg_of_nonpos (Int.le_of_lt hc) h
          omega
      · exact hp
  · have he : e = 0 := by
      rcases h3 with h | ⟨h, _⟩
      · have := Int.mul_pos hd h
        omega
      · exact h
    subst he
    have hf : 0 < f := by omega
    have ha : 0 ≤ a := by omega
    have p := Int.mul_nonneg ha (Int.le_of_lt hf)
    refine ⟨by omega, ?_⟩
    rintro (hs | hs)
    · have ha0 : 0 < a := by
        rcases h1 with h | ⟨rfl, hb⟩
        · exact h
        · omega
      have := Int.mul_pos ha0 hf
      omega
    · omega
/-- What the hull asks of an order of spots. -/
structure Dir (lt : Int × Int → Int × Int → Prop) : Prop where
  irr : ∀ a, ¬ lt a a
  trans : ∀ a b c, lt a b → lt b c → lt a c
  conv : ∀ z a b s, lt z a → lt a b → lt b s → 0 < crs z a b → 0 < crs a b s → 0 < crs z a s
  back : ∀ z m s c, lt z m → lt m s → lt c m → 0 ≤ crs z m c → 0 < crs z m s → 0 < crs m s c
  pop : ∀ z k s c, lt z k → lt z s → lt z c → 0 ≤ crs z k c → crs z k s ≤ 0 → 0 ≤ crs z s c
def up (a b : Int × Int) : Prop := a.1 < b.1 ∨ (a.1 = b.1 ∧ a.2 < b.2)
def dn (a b : Int × Int) : Prop := up b a
theorem dirUp : Dir up where
  irr a := by unfold up; omega
  trans a b c := by unfold up; omega
  conv z a b s h1 h2 h3 k1 k2 := by
    unfold up at h1 h2 h3
    unfold crs at *
    have := (ang (a := a.1 - z.1) (b := a.2 - z.2) (c := b.1 - a.1) (d := b.2 - a.2) (e := s.1 - b.1) (f := s.2 - b.2) (by omega) (by omega) (by omega) (by grind) (by grind)).2 (.inl (by grind))
    grind
  back z m s c h1 h2 h3 k1 k2 := by
    unfold up at h1 h2 h3
    unfold crs at *
    have := (ang (a := m.1 - c.1) (b := m.2 - c.2) (c := m.1 - z.1) (d := m.2 - z.2) (e := s.1 - m.1) (f := s.2 - m.2) (by omega) (by omega) (by omega) (by grind) (by grind)).2 (.inr (by grind))
    grind
  pop z k s c h1 h2 h3 k1 k2 := by
    unfold up at h1 h2 h3
    unfold crs at *
    have := (ang (a := s.1 - z.1) (b := s.2 - z.2) (c := k.1 - z.1) (d := k.2 - z.2) (e := c.1 - z.1) (f := c.2 - z.2) (by omega) (by omega) (by omega) (by grind) (by grind)).1
    grind
theorem dirDn : Dir dn where
  irr a := by unfold dn up; omega
  trans a b c := by unfold dn up; omega
  conv z a b s h1 h2 h3 k1 k2 := by
    unfold dn up at h1 h2 h3
    unfold crs at *
    have := (ang (a := z.1 - a.1) (b := z.2 - a.2) (c := a.1 - b.1) (d := a.2 - b.2) (e := b.1 - s.1) (f := b.2 - s.2) (by omega) (by omega) (by omega) (by grind) (by grind)).2 (.inl (by grind))
    grind
  back z m s c h1 h2 h3 k1 k2 := by
    unfold dn up at h1 h2 h3
    unfold crs at *
    have := (ang (a := c.1 - m.1) (b := c.2 - m.2) (c := z.1 - m.1) (d := z.2 - m.2) (e := m.1 - s.1) (f := m.2 - s.2) (by omega) (by omega) (by omega) (by grind) (by grind)).2 (.inr (by grind))
    grind
  pop z k s c h1 h2 h3 k1 k2 := by
    unfold dn up at h1 h2 h3
    unfold crs at *
    have := (ang (a := z.1 - s.1) (b := z.2 - s.2) (c := z.1 - k.1) (d := z.2 - k.2) (e := z.1 - c.1) (f := z.2 - c.2) (by omega) (by omega) (by omega) (by grind) (by grind)).1
    grind
/-- The stack of a chain, its top first: what is left when s comes. -/
def popS : List (Int × Int) → Int × Int → List (Int × Int)
  | b :: a :: r, s => if bendZ a b s ≤ 0 then popS (a :: r) s else b :: a :: r
  | st, _ => st
def chainS (l : List (Int × Int)) : List (Int × Int) := l.foldl (fun st s => s :: popS st s) []
section
variable {lt : Int × Int → Int × Int → Prop}
/-- All of pre lie on the right of the way from a to b, or on it. -/
def Good (lt : Int × Int → Int × Int → Prop) (pre : List (Int × Int)) (a b : Int × Int) : Prop :=
  ∀ c ∈ pre, 0 < crs a b c ∨ (crs a b c = 0 ∧ (c = a ∨ lt a c) ∧ (c = b ∨ lt c b))
def HullS (lt : Int × Int → Int × Int → Prop) (pre : List (Int × Int)) : List (Int × Int) → Prop
  | [] => False
  | [t] => ∀ c ∈ pre, c = t ∨ lt t c
  | b :: a :: r => lt a b ∧ Good lt pre a b ∧ (∀ z r', r = z :: r' → 0 < crs z a b) ∧ HullS lt pre (a :: r)
theorem crs_self (a b : Int × Int) : crs a b b = 0 := by unfold crs; grind
theorem crs_self1 (a b : Int × Int) : crs a b a = 0 := by unfold crs; grind
theorem hull_ext (D : Dir lt) {pre : List (Int × Int)} {s : Int × Int} : ∀ {r : List (Int × Int)} {a b : Int × Int}, HullS lt pre (b :: a :: r) → lt b s → 0 < crs a b s → HullS lt (pre ++ [s]) (b :: a :: r)
  | [], a, b, ⟨h1, h2, h3, h4⟩, hs, hc => by
    refine ⟨h1, ?_, h3, ?_⟩
    · intro c hm
      rw [List.mem_append, List.mem_singleton] at hm
      rcases hm with hm | rfl
      · exact h2 c hm
      · exact .inl hc
    · intro c hm
      rw [List.mem_append, List.mem_singleton] at hm
      rcases hm with hm | rfl
      · exact h4 c hm
      · exact .inr (D.trans _ _ _ h1 hs)
  | z :: r, a, b, ⟨h1, h2, h3, h4⟩, hs, hc => by
    have h5 := h4.1
    refine ⟨h1, ?_, h3, hull_ext D h4 (D.trans _ _ _ h1 hs) (D.conv z a b s h5 h1 hs (h3 z r rfl) hc)⟩
    intro c hm
    rw [List.mem_append, List.mem_singleton] at hm
    rcases hm with hm | rfl
    · exact h2 c hm
    · exact .inl hc
theorem hull_push (D : Dir lt) {pre : List (Int × Int)} {s : Int × Int} (tri : ∀ a b, a = b ∨ lt a b ∨ lt b a) (hs : ∀ c ∈ pre, lt c s) :
    ∀ {r : List (Int × Int)} {t : Int × Int}, HullS lt pre (t :: r) → (∀ x ∈ t :: r, x ∈ pre) → (∀ c ∈ pre, c = t ∨ lt t c → 0 ≤ crs t s c) → HullS lt (pre ++ [s]) (s :: popS (t :: r) s)
  | [], t, h, hx, hk => by
    have ht := hs t (hx t (by simp))
    show lt t s ∧ _ ∧ _ ∧ _
    refine ⟨ht, ?_, by intro z r' e; simp at e, ?_⟩
    · intro c hm
      rw [List.mem_append, List.mem_singleton] at hm
      rcases hm with hm | rfl
      · have h1 := h c hm
        have h2 := hk c hm h1
        rcases Int.lt_or_eq_of_le h2 with h3 | h3
        · exact .inl h3
        · exact .inr ⟨h3.symm, h1, .inr (hs c hm)⟩
      · exact .inr ⟨crs_self _ _, .inr ht, .inl rfl⟩
    · intro c hm
      rw [List.mem_append, List.mem_singleton] at hm
      rcases hm with hm | rfl
      · exact h c hm
      · exact .inr ht
  | a :: r, b, h, hx, hk => by
    have hb := hs b (hx b (by simp))
    have ha := hs a (hx a (by simp))
    have h0 := h
    obtain ⟨h1, h2, h3, h4⟩ := h
    rw [popS, bend_crs]
    split
    · rename_i hle
      refine hull_push D tri hs h4 (fun x hm => hx x (List.mem_cons_of_mem _ hm)) ?_
      intro c hm hc
      rcases hc with rfl | hc
      · rw [crs_self1]; exact Int.le_refl _
      · refine D.pop a b s c h1 ha hc ?_ hle
        rcases h2 c hm with h | h <;> omega
    · rename_i hgt
      have hgt' : 0 < crs a b s := by omega
      refine ⟨hb, ?_, ?_, hull_ext D h0 hb hgt'⟩
      · intro c hm
        rw [List.mem_append, List.mem_singleton] at hm
        rcases hm with hm | rfl
        · rcases tri c b with e | e | e
          · subst e
            exact .inr ⟨crs_self1 _ _, .inl rfl, .inr hb⟩
          · refine .inl (D.back a b s c h1 hb e ?_ hgt')
            rcases h2 c hm with h | h <;> omega
          · have h5 := hk c hm (.inr e)
            rcases Int.lt_or_eq_of_le h5 with h6 | h6
            · exact .inl h6
            · exact .inr ⟨h6.symm, .inr e, .inr (hs c hm)⟩
        · exact .inr ⟨crs_self _ _, .inr hb, .inl rfl⟩
      · intro z r' e
        injection e with e1 e2
        subst e1
        exact hgt'
theorem popS_mem : ∀ (st : List (Int × Int)) (s x : Int × Int), x ∈ popS st s → x ∈ st
  | [], s, x, h => h
  | [t], s, x, h => h
  | b :: a :: r, s, x, h => by
    rw [popS] at h
    split at h
    · exact List.mem_cons_of_mem _ (popS_mem (a :: r) s x h)
    · exact h
theorem popS_last : ∀ (st : List (Int × Int)) (s : Int × Int), (popS st s).getLast? = st.getLast?
  | [], s => rfl
  | [t], s => rfl
  | b :: a :: r, s => by
    rw [popS]
    split
    · rw [popS_last (a :: r) s]
      rw [List.getLast?_cons_cons]
    · rfl
theorem popS_ne : ∀ (st : List (Int × Int)) (s : Int × Int), st ≠ [] → popS st s ≠ []
  | [], s, h => absurd rfl h
  | [t], s, h => by simp [popS]
  | b :: a :: r, s, h => by
    rw [popS]
    split
    · exact popS_ne (a :: r) s (by simp)
    · simp
/-- What a chain is. -/
structure ChainOk (lt : Int × Int → Int × Int → Prop) (l st : List (Int × Int)) : Prop where
  hull : HullS lt l st
  mem : ∀ x ∈ st, x ∈ l
  head : st.head? = l.getLast?
  last : st.getLast? = l.head?
theorem chain_fold (D : Dir lt) (tri : ∀ a b, a = b ∨ lt a b ∨ lt b a) : ∀ (rest pre st : List (Int × Int)), pre ≠ [] → ChainOk lt pre st → (pre ++ rest).Pairwise lt → ChainOk lt (pre ++ rest) (rest.foldl (fun st s => s :: popS st s) st)
  | [], pre, st, hn, h, hp => by simpa using h
  | s :: rest, pre, st, hn, h, hp => by
    have e : pre ++ s :: rest = (pre ++ [s]) ++ rest := by simp
    rw [e] at hp ⊢
    rw [List.foldl_cons]
    have hs : ∀ c ∈ pre, lt c s := by
      intro c hc
      have h1 := (List.pairwise_append.1 (List.pairwise_append.1 hp).1).2.2
      exact h1 c hc s (by simp)
    have hst : st ≠ [] := by
      intro e
      have := h.hull
      rw [e] at this
      exact this
    obtain ⟨t, r, rfl⟩ := List.exists_cons_of_ne_nil hst
    have htop : ∀ c ∈ pre, c = t ∨ lt t c → 0 ≤ crs t s c := by
      intro c hc hct
      have h1 : pre.getLast? = some t := h.head.symm
      have h2 : c = t ∨ lt c t := by
        obtain ⟨ys, rfl⟩ := List.getLast?_eq_some_iff.1 h1
        rw [List.mem_append, List.mem_singleton] at hc
        rcases hc with hc | rfl
        · have h3 := (List.pairwise_append.1 (List.pairwise_append.1 (List.pairwise_append.1 hp).1).1).2.2
          exact .inr (h3 c hc t (by simp))
        · exact .inl rfl
      have h4 : c = t := by
        rcases hct with e | e
        · exact e
        · rcases h2 with e2 | e2
          · exact e2
          · exact absurd (D.trans _ _ _ e e2) (D.irr _)
      rw [h4, crs_self1]
      exact Int.le_refl _
    refine chain_fold D tri rest (pre ++ [s]) _ (by simp) ⟨hull_push D tri hs h.hull h.mem htop, ?_, by simp, ?_⟩ hp
    · intro x hx
      rw [List.mem_append, List.mem_singleton]
      rcases List.mem_cons.1 hx with rfl | hx
      · exact .inr rfl
      · exact .inl (h.mem x (popS_mem _ _ _ hx))
    · have h5 := popS_ne (t :: r) s (by simp)
      obtain ⟨u, v, e2⟩ := List.exists_cons_of_ne_nil h5
      have h6 := popS_last (t :: r) s
      rw [e2] at h6 ⊢
      rw [List.getLast?_cons_cons, h6, h.last]
      obtain ⟨a, q, rfl⟩ := List.exists_cons_of_ne_nil hn
      simp
theorem chain_ok (D : Dir lt) (tri : ∀ a b, a = b ∨ lt a b ∨ lt b a) (l : List (Int × Int)) (hn : l ≠ []) (hp : l.Pairwise lt) : ChainOk lt l (chainS l) := by
  obtain ⟨a, r, rfl⟩ := List.exists_cons_of_ne_nil hn
  rw [chainS, List.foldl_cons, show a :: r = [a] ++ r by simp]
  refine chain_fold D tri r [a] _ (by simp) ⟨?_, by simp [popS], by simp [popS], by simp [popS]⟩ (by simpa using hp)
  show ∀ c ∈ [a], c = a ∨ lt a c
  intro c hc
  simp at hc
  exact .inl hc
end

theorem hull_adj {lt : Int × Int → Int × Int → Prop} {pre : List (Int × Int)} : ∀ {st : List (Int × Int)}, HullS lt pre st → ∀ i (h : i + 1 < st.length), lt st[i + 1] st[i] ∧ Good lt pre st[i + 1] st[i]
  | [], _, i, h => absurd h (by simp)
  | [t], _, i, h => absurd h (by simp)
  | b :: a :: r, hh, i, h => by
    cases i with
    | zero => exact ⟨hh.1, hh.2.1⟩
    | succ i => exact hull_adj hh.2.2.2 i (by simpa using h)
theorem tri_up (a b : Int × Int) : a = b ∨ up a b ∨ up b a := by
  obtain ⟨a1, a2⟩ := a
  obtain ⟨b1, b2⟩ := b
  simp only [Prod.mk.injEq, up]
  omega
theorem tri_dn (a b : Int × Int) : a = b ∨ dn a b ∨ dn b a := by
  rcases tri_up a b with h | h | h
  · exact .inl h
  · exact .inr (.inr h)
  · exact .inr (.inl h)
/-- c lies between a and b. -/
def Bt (a c b : Int × Int) : Prop := ((c = a ∨ up a c) ∧ (c = b ∨ up c b)) ∨ ((c = a ∨ up c a) ∧ (c = b ∨ up b c))
/-- b is the next corner of the hull behind a. -/
structure Nx (l : List (Int × Int)) (a b : Int × Int) : Prop where
  mem : b ∈ l
  ne : b ≠ a
  good : ∀ c ∈ l, 0 < crs a b c ∨ (crs a b c = 0 ∧ Bt a c b)
theorem crs_swap (a b c : Int × Int) : crs a c b = - crs a b c := by unfold crs; grind
theorem bt_anti {a b c : Int × Int} (h1 : Bt a c b) (h2 : Bt a b c) (hb : b ≠ a) : b = c := by
  have i := dirUp.irr
  have t := dirUp.trans
  rcases h1 with ⟨h1, h3⟩ | ⟨h1, h3⟩ <;> rcases h2 with ⟨h2, h4⟩ | ⟨h2, h4⟩ <;> rcases h3 with h3 | h3 <;> rcases h4 with h4 | h4 <;> first | exact h3.symm | exact h4 | skip
  · exact absurd (t _ _ _ h3 h4) (i _)
  · rcases h1 with rfl | h1
    · rcases h2 with h2 | h2
      · exact absurd h2 hb
      · exact absurd (t _ _ _ h3 h2) (i _)
    · rcases h2 with h2 | h2
      · exact absurd h2 hb
      · exact absurd (t _ _ _ (t _ _ _ h1 h3) h2) (i _)
  · rcases h1 with rfl | h1
    · rcases h2 with h2 | h2
      · exact absurd h2 hb
      · exact absurd (t _ _ _ h2 h3) (i _)
    · rcases h2 with h2 | h2
      · exact absurd h2 hb
      · exact absurd (t _ _ _ h2 (t _ _ _ h3 h1)) (i _)
  · exact absurd (t _ _ _ h3 h4) (i _)
theorem Nx.uniq {l : List (Int × Int)} {a b c : Int × Int} (h1 : Nx l a b) (h2 : Nx l a c) : b = c := by
  have e := crs_swap a b c
  rcases h1.good c h2.mem with k1 | ⟨k1, b1⟩
  · rcases h2.good b h1.mem with k2 | ⟨k2, b2⟩ <;> omega
  · rcases h2.good b h1.mem with k2 | ⟨k2, b2⟩
    · omega
    · exact bt_anti b1 b2 h1.ne
/-- The corners of the hull, once around. -/
def hullL (l : List (Int × Int)) : List (Int × Int) := (chainS l).reverse.dropLast ++ (chainS l.reverse).reverse.dropLast
structure Cyc (l H : List (Int × Int)) : Prop where
  two : 2 ≤ H.length
  next : ∀ k (h : k < H.length), Nx l H[k] (H[(k + 1) % H.length]'(Nat.mod_lt _ (by omega)))
  inj : ∀ i j (hi : i < j) (hj : j < H.length), H[i] ≠ H[j]
  mem : ∀ x ∈ H, x ∈ l
theorem last_of {l st : List (Int × Int)} (h : st.head? = l.getLast?) (hl : 0 < l.length) (hs : 0 < st.length) : st[0] = l[l.length - 1] := by
  have e1 : st.head? = some st[0] := by rw [List.head?_eq_getElem?, List.getElem?_eq_getElem hs]
  have e2 : l.getLast? = some l[l.length - 1] := by rw [List.getLast?_eq_getElem?, List.getElem?_eq_getElem (by omega)]
  rw [e1, e2] at h
  exact Option.some.inj h
theorem hull_cyc {l : List (Int × Int)} (hp : l.Pairwise up) (h2 : 2 ≤ l.length) : Cyc l (hullL l) := by
  have c1 := chain_ok dirUp tri_up l (by intro e; simp [e] at h2) hp
  have c2 := chain_ok dirDn tri_dn l.reverse (by intro e; simp at e; simp [e] at h2) (by rw [List.pairwise_reverse]; exact hp)
  unfold hullL
  generalize chainS l = u at *
  generalize chainS l.reverse = d at *
  have hu0 : 0 < u.length := by
    rcases Nat.eq_zero_or_pos u.length with h | h
    · have := c1.hull
      rw [List.length_eq_zero_iff.1 h] at this
      exact absurd this id
    · exact h
  have hd0 : 0 < d.length := by
    rcases Nat.eq_zero_or_pos d.length with h | h
    · have := c2.hull
      rw [List.length_eq_zero_iff.1 h] at this
      exact absurd this id
    · exact h
  have uh := last_of c1.head (by omega) hu0
  have ul := last_of (l := u) (st := l) c1.last.symm hu0 (by omega)
  have dh := last_of c2.head (by simp; omega) hd0
  have dl := last_of (l := d) (st := l.reverse) c2.last.symm hd0 (by simp; omega)
  simp only [List.getElem_reverse, List.length_reverse] at dh dl
  have hne : l[0] ≠ l[l.length - 1] := by
    intro e
    have h := List.pairwise_iff_getElem.1 hp 0 (l.length - 1) (by omega) (by omega) (by omega)
    rw [e] at h
    exact dirUp.irr _ h
  have hu2 : 2 ≤ u.length := by
    rcases Nat.lt_or_ge 1 u.length with h | h
    · exact h
    · exfalso
      apply hne
      rw [← uh, ul]
      congr 1
      omega
  have hd2 : 2 ≤ d.length := by
    rcases Nat.lt_or_ge 1 d.length with h | h
    · exact h
    · exfalso
      apply hne
      have e1 : d[0] = l[0] := by rw [dh]; congr 1; omega
      have e2 : d[0] = l[l.length - 1] := by
        have : d[0] = d[d.length - 1] := by congr 1; omega
        rw [this, ← dl]
        congr 1
        try omega
      rw [← e1, e2]
  have au := hull_adj c1.hull
  have ad := hull_adj c2.hull
  have mu := c1.mem
  have md := c2.mem
  clear c1 c2
  obtain ⟨a, ea⟩ : ∃ a, u.length = a + 1 := ⟨u.length - 1, by omega⟩
  obtain ⟨b, eb⟩ : ∃ b, d.length = b + 1 := ⟨d.length - 1, by omega⟩
  obtain ⟨H, eH⟩ : ∃ H, H = u.reverse.dropLast ++ d.reverse.dropLast := ⟨_, rfl⟩
  rw [← eH]
  have hlen : H.length = a + b := by rw [eH]; simp; omega
  have at1 : ∀ k (h : k < a + b) (hk : k < a), H[k]'(by omega) = u[a - k]'(by omega) := by
    intro k h hk
    subst eH
    rw [List.getElem_append_left (by simp; omega), List.getElem_dropLast, List.getElem_reverse]
    congr 1
    omega
  have at2 : ∀ k (h : k < a + b) (hk : a ≤ k), H[k]'(by omega) = d[b - (k - a)]'(by omega) := by
    intro k h hk
    subst eH
    rw [List.getElem_append_right (by simp; omega), List.getElem_dropLast, List.getElem_reverse]
    congr 1
    simp
    omega
  have ud : d[b]'(by omega) = u[0] := by
    rw [uh]
    have : d[b]'(by omega) = d[d.length - 1]'(by omega) := by congr 1; omega
    rw [this, ← dl]
    congr 1
    try omega
  have du : u[a]'(by omega) = d[0] := by
    rw [dh]
    have : u[a]'(by omega) = u[u.length - 1]'(by omega) := by congr 1; omega
    rw [this, ← ul]
    congr 1
    omega
  have nu : ∀ i (h : i + 1 < a + 1), Nx l (u[i + 1]'(by omega)) (u[i]'(by omega)) := by
    intro i h
    obtain ⟨h3, h4⟩ := au i (by omega)
    refine ⟨mu _ (List.getElem_mem _), fun e => ?_, fun c hc => ?_⟩
    · rw [e] at h3
      exact dirUp.irr _ h3
    · rcases h4 c hc with h5 | ⟨h5, h6⟩
      · exact .inl h5
      · exact .inr ⟨h5, .inl h6⟩
  have nd : ∀ i (h : i + 1 < b + 1), Nx l (d[i + 1]'(by omega)) (d[i]'(by omega)) := by
    intro i h
    obtain ⟨h3, h4⟩ := ad i (by omega)
    refine ⟨List.mem_reverse.1 (md _ (List.getElem_mem _)), fun e => ?_, fun c hc => ?_⟩
    · rw [e] at h3
      exact dirUp.irr _ h3
    · rcases h4 c (List.mem_reverse.2 hc) with h5 | ⟨h5, h6⟩
      · exact .inl h5
      · exact .inr ⟨h5, .inr h6⟩
  have hnx : ∀ k (h : k < H.length), Nx l H[k] (H[(k + 1) % H.length]'(Nat.mod_lt _ (by omega))) := by
    intro k h
    have hk : k < a + b := by omega
    have hm : k + 1 < H.length → (k + 1) % H.length = k + 1 := fun h => Nat.mod_eq_of_lt h
    have hz : k + 1 = H.length → (k + 1) % H.length = 0 := fun h => by rw [h, Nat.mod_self]
    by_cases h1 : k + 1 < a
    · have e := hm (by omega)
      have e2 : H[(k + 1) % H.length]'(Nat.mod_lt _ (by omega)) = H[k + 1]'(by omega) := by congr 1
      rw [e2, at1 k hk (by omega), at1 (k + 1) (by omega) h1]
      have := nu (a - (k + 1)) (by omega)
      have e3 : u[a - k]'(by omega) = u[a - (k + 1) + 1]'(by omega) := by congr 1; omega
      rw [e3]
      exact this
    · by_cases h2 : k + 1 = a
      · have e := hm (by omega)
        have e2 : H[(k + 1) % H.length]'(Nat.mod_lt _ (by omega)) = H[k + 1]'(by omega) := by congr 1
        rw [e2, at1 k hk (by omega), at2 (k + 1) (by omega) (by omega)]
        have := nu 0 (by omega)
        have e3 : u[a - k]'(by omega) = u[0 + 1]'(by omega) := by congr 1; omega
        have e4 : d[b - (k + 1 - a)]'(by omega) = u[0] := by rw [← ud]; congr 1; omega
        rw [e3, e4]
        exact this
      · by_cases h3 : k + 1 < a + b
        · have e := hm (by omega)
          have e2 : H[(k + 1) % H.length]'(Nat.mod_lt _ (by omega)) = H[k + 1]'(by omega) := by congr 1
          rw [e2, at2 k hk (by omega), at2 (k + 1) (by omega) (by omega)]
          have := nd (b - (k + 1 - a)) (by omega)
          have e3 : d[b - (k - a)]'(by omega) = d[b - (k + 1 - a) + 1]'(by omega) := by congr 1; omega
          rw [e3]
          exact this
        · have e := hz (by omega)
          have e2 : H[(k + 1) % H.length]'(Nat.mod_lt _ (by omega)) = H[0]'(by omega) := by congr 1
          rw [e2, at2 k hk (by omega), at1 0 (by omega) (by omega)]
          have := nd 0 (by omega)
          have e3 : d[b - (k - a)]'(by omega) = d[0 + 1]'(by omega) := by congr 1; omega
          have e4 : u[a - 0]'(by omega) = d[0] := by rw [← du]; rfl
          rw [e3, e4]
          exact this
  have uu : ∀ i j (h : i < j) (hj : j < a + 1), up (u[j]'(by omega)) (u[i]'(by omega)) := by
    intro i j h hj
    obtain ⟨e, rfl⟩ : ∃ e, j = i + 1 + e := ⟨j - i - 1, by omega⟩
    induction e with
    | zero => exact (au i (by omega)).1
    | succ e ih => exact dirUp.trans _ _ _ (au (i + 1 + e) (by omega)).1 (ih (by omega) (by omega))
  have dd : ∀ i j (h : i < j) (hj : j < b + 1), up (d[i]'(by omega)) (d[j]'(by omega)) := by
    intro i j h hj
    obtain ⟨e, rfl⟩ : ∃ e, j = i + 1 + e := ⟨j - i - 1, by omega⟩
    induction e with
    | zero => exact (ad i (by omega)).1
    | succ e ih => exact dirUp.trans _ _ _ (ih (by omega) (by omega)) (ad (i + 1 + e) (by omega)).1
  refine ⟨by omega, hnx, ?_, ?_⟩
  · intro i j hij hj e
    have hj' : j < a + b := by omega
    by_cases h1 : j < a
    · rw [at1 i (by omega) (by omega), at1 j hj' h1] at e
      have := uu (a - j) (a - i) (by omega) (by omega)
      rw [e] at this
      exact dirUp.irr _ this
    · by_cases h2 : i < a
      · have n1 := hnx i (by omega)
        have n2 := hnx j hj
        rw [← e] at n2
        have e5 := n1.uniq n2
        have g1 : up H[i] (H[(i + 1) % H.length]'(Nat.mod_lt _ (by omega))) := by
          have e2 : H[(i + 1) % H.length]'(Nat.mod_lt _ (by omega)) = H[i + 1]'(by omega) := by congr 1; exact Nat.mod_eq_of_lt (by omega)
          rw [e2, at1 i (by omega) h2]
          by_cases h3 : i + 1 < a
          · rw [at1 (i + 1) (by omega) h3]
            exact uu _ _ (by omega) (by omega)
          · rw [at2 (i + 1) (by omega) (by omega)]
            have e4 : d[b - (i + 1 - a)]'(by omega) = u[0] := by rw [← ud]; congr 1; omega
            rw [e4]
            exact uu _ _ (by omega) (by omega)
        have g2 : up (H[(j + 1) % H.length]'(Nat.mod_lt _ (by omega))) H[j] := by
          rw [at2 j hj' (by omega)]
          by_cases h3 : j + 1 < a + b
          · have e2 : H[(j + 1) % H.length]'(Nat.mod_lt _ (by omega)) = H[j + 1]'(by omega) := by congr 1; exact Nat.mod_eq_of_lt (by omega)
            rw [e2, at2 (j + 1) (by omega) (by omega)]
            exact dd _ _ (by omega) (by omega)
          · have e2 : H[(j + 1) % H.length]'(Nat.mod_lt _ (by omega)) = H[0]'(by omega) := by congr 1; rw [show j + 1 = H.length by omega, Nat.mod_self]
            have e4 : u[a - 0]'(by omega) = d[0] := by rw [← du]; rfl
            rw [e2, at1 0 (by omega) (by omega), e4]
            exact dd _ _ (by omega) (by omega)
        rw [← e5, ← e] at g2
        exact dirUp.irr _ (dirUp.trans _ _ _ g1 g2)
      · rw [at2 i (by omega) (by omega), at2 j hj' (by omega)] at e
        have := dd (b - (j - a)) (b - (i - a)) (by omega) (by omega)
        rw [e] at this
        exact dirUp.irr _ this
  · intro x hx
    obtain ⟨k, hk, rfl⟩ := List.getElem_of_mem hx
    by_cases h1 : k < a
    · rw [at1 k (by omega) h1]
      exact mu _ (List.getElem_mem _)
    · rw [at2 k (by omega) (by omega)]
      exact List.mem_reverse.1 (md _ (List.getElem_mem _))

/-- The reference's choice of the next corner, one corner further. -/
def stepF (p n c : Int × Int) : Int × Int := if c = p then n else if n = p ∨ crs p n c < 0 ∨ (crs p n c = 0 ∧ farS p n < farS p c) then c else n
def scanF (p : Int × Int) (l : List (Int × Int)) : Int × Int := l.foldl (stepF p) p
theorem dot_nonneg {a b c d : Int} (h1 : 0 < a ∨ (a = 0 ∧ 0 < b)) (h2 : 0 < c ∨ (c = 0 ∧ 0 < d)) (h : a * d = b * c) : 0 < a * c + b * d := by
  rcases h1 with h1 | ⟨rfl, h1⟩
  · rcases h2 with h2 | ⟨rfl, h2⟩
    · have p := Int.mul_pos h1 h2
      have q := Int.mul_nonneg (Int.le_of_lt p) (Int.le_of_lt p)
      have i1 : (a * c) * (a * c + b * d) = (a * c) * (a * c) + (a * d) * (b * c) := by grind
      have q2 : 0 ≤ (a * d) * (b * c) := by
        rw [h]
        rcases Int.le_total 0 (b * c) with g | g
        · exact Int.mul_nonneg g g
        · exact Int.mul_nonneg_of_nonpos_of_nonpos g g
      rcases Int.lt_or_le 0 (a * c + b * d) with g | g
      · exact g
      · have q3 := Int.mul_nonpos_of_nonneg_of_nonpos (Int.le_of_lt p) g
        have q4 := Int.mul_pos p p
        omega
    · have := Int.mul_pos h1 h2
      omega
  · rcases h2 with h2 | ⟨rfl, h2⟩
    · have := Int.mul_pos h1 h2
      omega
    · have := Int.mul_pos h1 h2
      omega
theorem sq_pos {a b : Int} (h : ¬ (a = 0 ∧ b = 0)) : 0 < a * a + b * b := by
  have p : ∀ x : Int, 0 ≤ x * x := fun x => by
    rcases Int.le_total 0 x with g | g
    · exact Int.mul_nonneg g g
    · exact Int.mul_nonneg_of_nonpos_of_nonpos g g
  have pp : ∀ x : Int, x ≠ 0 → 0 < x * x := fun x hx => by
    rcases Int.lt_or_gt_of_ne hx with g | g
    · exact Int.mul_pos_of_neg_of_neg g g
    · exact Int.mul_pos g g
  have h1 := p a
  have h2 := p b
  by_cases ha : a = 0
  · have := pp b (fun hb => h ⟨ha, hb⟩)
    omega
  · have := pp a ha
    omega
theorem far_lt {a b c : Int × Int} (h0 : crs a b c = 0) (hb : Bt a c b) (hne : c ≠ b) : farS a c < farS a b := by
  obtain ⟨a1, a2⟩ := a
  obtain ⟨b1, b2⟩ := b
  obtain ⟨c1, c2⟩ := c
  simp only [crs, farS, Bt, up, Prod.mk.injEq, ne_eq] at *
  have hw : ¬ (b1 - c1 = 0 ∧ b2 - c2 = 0) := by omega
  have hs := sq_pos hw
  have hd : 0 ≤ (c1 - a1) * (b1 - c1) + (c2 - a2) * (b2 - c2) := by
    rcases hb with ⟨h1, h2⟩ | ⟨h1, h2⟩
    · rcases h1 with ⟨rfl, rfl⟩ | h1
      · simp
      · have := dot_nonneg (a := c1 - a1) (b := c2 - a2) (c := b1 - c1) (d := b2 - c2) (by omega) (by omega) (by grind)
        omega
    · rcases h1 with ⟨rfl, rfl⟩ | h1
      · simp
      · have := dot_nonneg (a := a1 - c1) (b := a2 - c2) (c := c1 - b1) (d := c2 - b2) (by omega) (by omega) (by grind)
        grind
  grind
theorem scan_fold {l : List (Int × Int)} {p b : Int × Int} (h : Nx l p b) : ∀ (m : List (Int × Int)) (n : Int × Int), (∀ c ∈ m, c ∈ l) → (n = p ∨ n ∈ l) → (b ∈ m ∨ n = b) → m.foldl (stepF p) n = b
  | [], n, _, _, hb => by
    rcases hb with hb | hb
    · cases hb
    · exact hb
  | c :: m, n, hm, hn, hb => by
    rw [List.foldl_cons]
    have hc := hm c (by simp)
    have ih := scan_fold h m (stepF p n c) (fun x hx => hm x (List.mem_cons_of_mem _ hx))
    have hmem : stepF p n c = p ∨ stepF p n c ∈ l := by
      unfold stepF
      split
      · exact hn
      · split
        · exact .inr hc
        · exact hn
    refine ih hmem ?_
    have key : n = b → stepF p n c = b := by
      rintro rfl
      unfold stepF
      split
      · rfl
      · rename_i hcp
        rw [if_neg]
        rintro (h1 | h1 | ⟨h1, h2⟩)
        · exact h.ne h1
        · rcases h.good c hc with h3 | ⟨h3, _⟩ <;> omega
        · rcases h.good c hc with h3 | ⟨h3, h4⟩
          · omega
          · by_cases e : c = n
            · subst e; omega
            · have := far_lt h3 h4 e
              omega
    have key2 : c = b → stepF p n c = b := by
      rintro rfl
      by_cases e : n = c
      · exact key e
      · unfold stepF
        rw [if_neg h.ne, if_pos]
        rcases hn with hn | hn
        · exact .inl hn
        · have e2 := crs_swap p c n
          rcases h.good n hn with h3 | ⟨h3, h4⟩
          · exact .inr (.inl (by omega))
          · exact .inr (.inr ⟨by omega, far_lt h3 h4 e⟩)
    rcases hb with hb | hb
    · rcases List.mem_cons.1 hb with e | e
      · exact .inr (key2 e.symm)
      · exact .inl e
    · exact .inr (key hb)
theorem scan_next {l m : List (Int × Int)} {p b : Int × Int} (h : Nx l p b) (hm : ∀ c, c ∈ m ↔ c ∈ l) : scanF p m = b :=
  scan_fold h m p (fun c hc => (hm c).1 hc) (.inl rfl) (.inl ((hm b).2 h.mem))
/-- The order of rows. -/
def yx (a b : Int × Int) : Prop := a.2 < b.2 ∨ (a.2 = b.2 ∧ a.1 < b.1)
instance (a b : Int × Int) : Decidable (yx a b) := inferInstanceAs (Decidable (_ ∨ _))
theorem yx_tri (a b : Int × Int) : a = b ∨ yx a b ∨ yx b a := by
  obtain ⟨a1, a2⟩ := a
  obtain ⟨b1, b2⟩ := b
  simp only [Prod.mk.injEq, yx]
  omega
theorem yx_trans {a b c : Int × Int} : yx a b → yx b c → yx a c := by unfold yx; omega
theorem yx_irr (a : Int × Int) : ¬ yx a a := by unfold yx; omega
theorem corner_no {hp hj hq m : Int × Int} (h1 : yx hj hp) (h2 : yx hj hq) (h3 : yx m hj) (k1 : 0 ≤ crs hj hq m) (k2 : 0 < crs hp hj m ∨ (crs hp hj m = 0 ∧ Bt hp m hj)) (k3 : 0 ≤ crs hj hq hp) : False := by
  obtain ⟨p1, p2⟩ := hp
  obtain ⟨j1, j2⟩ := hj
  obtain ⟨q1, q2⟩ := hq
  obtain ⟨m1, m2⟩ := m
  simp only [yx, crs, Bt, up, Prod.mk.injEq] at *
  have A := ang (a := q2 - j2) (b := q1 - j1) (c := j2 - m2) (d := j1 - m1) (e := p2 - j2) (f := p1 - j1) (by omega) (by omega) (by omega) (by grind) (by rcases k2 with h | ⟨h, _⟩ <;> grind)
  have A1 := A.1
  have z : (j2 - m2) * (p1 - j1) - (j1 - m1) * (p2 - j2) = 0 := by
    rcases k2 with h | ⟨h, _⟩
    · have := A.2 (.inr (by grind))
      grind
    · grind
  rcases k2 with h | ⟨h, hb⟩
  · grind
  · rcases hb with ⟨g1, g2⟩ | ⟨g1, g2⟩
    · have w1 : p1 < j1 := by
        rcases Int.lt_or_le p1 j1 with e | e
        · exact e
        · omega
      have w2 : 0 < p2 - j2 := by omega
      rcases Int.lt_or_le m1 j1 with e | e
      · have q1 := Int.mul_pos (show 0 < j1 - m1 by omega) w2
        have q2 := Int.mul_nonneg (show 0 ≤ j2 - m2 by omega) (show 0 ≤ j1 - p1 by omega)
        grind
      · have hm : m1 = j1 := by omega
        subst hm
        have q2 := Int.mul_pos (show 0 < j2 - m2 by omega) (show 0 < m1 - p1 by omega)
        grind
    · have v1 : j1 < m1 ∨ (j1 = m1 ∧ j2 < m2) := by omega
      have v2 : j1 < m1 := by omega
      have v3 : 0 < j2 - m2 := by omega
      rcases Int.lt_or_le j1 p1 with e | e
      · have q1 := Int.mul_pos v3 (show 0 < p1 - j1 by omega)
        have q2 := Int.mul_nonneg (show 0 ≤ m1 - j1 by omega) (show 0 ≤ p2 - j2 by omega)
        grind
      · have hm : p1 = j1 := by omega
        subst hm
        have q2 := Int.mul_pos (show 0 < m1 - p1 by omega) (show 0 < p2 - j2 by omega)
        grind
/-- The index of the first corner in rows, among the first k. -/
def minIx (H : List (Int × Int)) : Nat → Nat
  | 0 => 0
  | k + 1 => if yx (H.getD k (0, 0)) (H.getD (minIx H k) (0, 0)) then k else minIx H k
theorem minIx_le (H : List (Int × Int)) : ∀ k, minIx H k ≤ k
  | 0 => Nat.le_refl _
  | k + 1 => by
    rw [minIx]
    split
    · omega
    · have := minIx_le H k
      omega
theorem minIx_lt (H : List (Int × Int)) (h : 0 < H.length) : ∀ k, k ≤ H.length → minIx H k < H.length
  | 0, _ => h
  | k + 1, hk => by
    rw [minIx]
    split
    · omega
    · exact minIx_lt H h k (by omega)
theorem minIx_min (H : List (Int × Int)) : ∀ k i, i < k → ¬ yx (H.getD i (0, 0)) (H.getD (minIx H k) (0, 0))
  | 0, i, h => absurd h (by omega)
  | k + 1, i, h => by
    rw [minIx]
    by_cases hc : yx (H.getD k (0, 0)) (H.getD (minIx H k) (0, 0))
    · rw [if_pos hc]
      by_cases e : i = k
      · subst e; exact yx_irr _
      · intro h2
        exact minIx_min H k i (by omega) (yx_trans h2 hc)
    · rw [if_neg hc]
      by_cases e : i = k
      · subst e; exact hc
      · exact minIx_min H k i (by omega)
theorem Cyc.first {l H : List (Int × Int)} (C : Cyc l H) {m : Int × Int} (hm : m ∈ l) (hmin : ∀ c ∈ l, c = m ∨ yx m c) : H.getD (minIx H H.length) (0, 0) = m := by
  have h2 := C.two
  have hj := minIx_lt H (by omega) H.length (Nat.le_refl _)
  have hmn := minIx_min H H.length
  generalize minIx H H.length = j at *
  have ed : ∀ i (h : i < H.length), H.getD i (0, 0) = H[i] := fun i h => by simp [List.getD, List.getElem?_eq_getElem h]
  rw [ed j hj] at hmn ⊢
  have hlt : ∀ i (h : i < H.length), i ≠ j → yx H[j] H[i] := by
    intro i h hne
    have h3 := hmn i h
    rw [ed i h] at h3
    rcases yx_tri H[j] H[i] with e | e | e
    · exfalso
      rcases Nat.lt_or_gt_of_ne hne with g | g
      · exact C.inj i j g hj e.symm
      · exact C.inj j i g h e
    · exact e
    · exact absurd e h3
  rcases hmin H[j] (C.mem _ (List.getElem_mem hj)) with e | e
  · exact e
  · exfalso
    have n1 := C.next j hj
    obtain ⟨p, hp, hpj⟩ : ∃ p, p < H.length ∧ (p + 1) % H.length = j := by
      by_cases h0 : j = 0
      · exact ⟨H.length - 1, by omega, by rw [show H.length - 1 + 1 = H.length by omega, Nat.mod_self, h0]⟩
      · exact ⟨j - 1, by omega, by rw [show j - 1 + 1 = j by omega, Nat.mod_eq_of_lt hj]⟩
    have n2 := C.next p hp
    have e2 : H[(p + 1) % H.length]'(Nat.mod_lt _ (by omega)) = H[j] := by congr 1
    rw [e2] at n2
    have hq : (j + 1) % H.length < H.length := Nat.mod_lt _ (by omega)
    have q1 : (j + 1) % H.length ≠ j := by
      intro e
      have e3 : H[(j + 1) % H.length]'(Nat.mod_lt _ (by omega)) = H[j] := by congr 1
      exact n1.ne e3
    have p1 : p ≠ j := by
      intro e
      subst e
      exact n2.ne rfl
    refine corner_no (hlt p hp p1) (hlt _ hq q1) e ?_ (n2.good m hm) ?_
    · rcases n1.good m hm with h | ⟨h, _⟩ <;> omega
    · rcases n1.good H[p] (C.mem _ (List.getElem_mem hp)) with h | ⟨h, _⟩ <;> omega
def rotL (H : List (Int × Int)) (j : Nat) : List (Int × Int) := H.drop j ++ H.take j
theorem rot_at {H : List (Int × Int)} {j k : Nat} (hj : j < H.length) (hk : k < H.length) : (rotL H j).getD k (0, 0) = H[(j + k) % H.length]'(Nat.mod_lt _ (by omega)) := by
  unfold rotL
  by_cases h : j + k < H.length
  · have e : H[(j + k) % H.length]'(Nat.mod_lt _ (by omega)) = H[j + k] := by congr 1; exact Nat.mod_eq_of_lt h
    rw [e, List.getD, List.getElem?_append_left (by simp; omega), List.getElem?_drop, List.getElem?_eq_getElem h]
    rfl
  · have e1 : (j + k) % H.length = j + k - H.length := by
      rw [Nat.mod_eq_sub_mod (by omega), Nat.mod_eq_of_lt (by omega)]
    have e : H[(j + k) % H.length]'(Nat.mod_lt _ (by omega)) = H[j + k - H.length]'(by omega) := by congr 1
    rw [e, List.getD, List.getElem?_append_right (by simp; omega), List.length_drop, List.getElem?_take, if_pos (by omega)]
    have e3 : k - (H.length - j) = j + k - H.length := by omega
    rw [e3, List.getElem?_eq_getElem (by omega)]
    rfl
theorem rot_len {H : List (Int × Int)} {j : Nat} (hj : j < H.length) : (rotL H j).length = H.length := by
  simp [rotL]
  omega
/-- What the reference's round needs of the corners that it finds. -/
structure Gift (L R : List (Int × Int)) (m : Int × Int) : Prop where
  two : 2 ≤ R.length
  first : R.getD 0 (0, 0) = m
  next : ∀ k, k + 1 < R.length → scanF (R.getD k (0, 0)) L = R.getD (k + 1) (0, 0)
  back : scanF (R.getD (R.length - 1) (0, 0)) L = m
  fresh : ∀ k, 0 < k → k < R.length → R.getD k (0, 0) ≠ m
  mem : ∀ k, k < R.length → R.getD k (0, 0) ∈ L
theorem gift_of {l L : List (Int × Int)} {m : Int × Int} (hp : l.Pairwise up) (h2 : 2 ≤ l.length) (hL : ∀ c, c ∈ L ↔ c ∈ l) (hm : m ∈ l) (hmin : ∀ c ∈ l, c = m ∨ yx m c) :
    Gift L (rotL (hullL l) (minIx (hullL l) (hullL l).length)) m := by
  have C := hull_cyc hp h2
  have hf := C.first hm hmin
  have h2 := C.two
  have hj := minIx_lt (hullL l) (by omega) (hullL l).length (Nat.le_refl _)
  generalize hullL l = H at *
  generalize minIx H H.length = j at *
  have ed : ∀ i (h : i < H.length), H.getD i (0, 0) = H[i] := fun i h => by simp [List.getD, List.getElem?_eq_getElem h]
  rw [ed j hj] at hf
  have hl := rot_len hj
  have r0 : (rotL H j).getD 0 (0, 0) = m := by
    rw [rot_at hj (by omega), ← hf]
    congr 1
    exact Nat.mod_eq_of_lt hj
  have nx : ∀ k, k < H.length → Nx l ((rotL H j).getD k (0, 0)) (H[(j + k + 1) % H.length]'(Nat.mod_lt _ (by omega))) := by
    intro k hk
    rw [rot_at hj hk]
    have := C.next ((j + k) % H.length) (Nat.mod_lt _ (by omega))
    have e : ((j + k) % H.length + 1) % H.length = (j + k + 1) % H.length := by rw [Nat.mod_add_mod]
    have e2 : H[((j + k) % H.length + 1) % H.length]'(Nat.mod_lt _ (by omega)) = H[(j + k + 1) % H.length]'(Nat.mod_lt _ (by omega)) := by congr 1
    rw [e2] at this
    exact this
  refine ⟨by omega, r0, ?_, ?_, ?_, ?_⟩
  · intro k hk
    rw [scan_next (nx k (by omega)) hL, rot_at hj (by omega)]
    rfl
  · rw [hl, scan_next (nx (H.length - 1) (by omega)) hL, ← hf]
    congr 1
    rw [show j + (H.length - 1) + 1 = j + H.length by omega, Nat.add_mod_right, Nat.mod_eq_of_lt hj]
  · intro k h0 hk e
    rw [hl] at hk
    rw [rot_at hj hk, ← hf] at e
    have h3 := Nat.mod_lt (j + k) (show 0 < H.length by omega)
    have hne : (j + k) % H.length ≠ j := by
      intro e2
      by_cases h : j + k < H.length
      · rw [Nat.mod_eq_of_lt h] at e2; omega
      · rw [Nat.mod_eq_sub_mod (by omega), Nat.mod_eq_of_lt (by omega)] at e2; omega
    rcases Nat.lt_or_gt_of_ne hne with g | g
    · exact C.inj _ _ g hj e
    · exact C.inj _ _ g h3 e.symm
  · intro k hk
    rw [rot_at hj (by omega), hL]
    exact C.mem _ (List.getElem_mem _)
end Go.Proofs.Ytjplikkehhpomaa.Hull
