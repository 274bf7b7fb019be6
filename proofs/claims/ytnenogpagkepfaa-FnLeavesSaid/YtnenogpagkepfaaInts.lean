/- Slices of numbers and slices of these: how they read, which are the call's own; the laws' helpers over them. -/
import Derived.Test.YtnenogpagkepfaaLawStr
set_option linter.unusedVariables false
namespace Go.Proofs.Ytnenogpagkepfaa
open Go.RowKit

/-- The cells of a list of numbers. -/
def intCells (l : List Int) : List Value := l.map (Value.int .i64)
def intAt (l : List Int) (i : Nat) : Value := .int .i64 (l.getD i 0)
theorem intCells_len (l : List Int) : (intCells l).length = l.length := by simp [intCells]
theorem intCells_snoc (l : List Int) (x : Int) : intCells (l ++ [x]) = intCells l ++ [.int .i64 x] := by simp [intCells]
theorem intCells_at (l : List Int) : ∀ i (hi : i < (intCells l).length), (intCells l)[i] = intAt l i := by
  intro i hi
  have hi' : i < l.length := by rw [intCells_len] at hi; exact hi
  simp [intCells, intAt, List.getD, List.getElem?_eq_getElem hi']

/-- A slice of numbers of the call's own, from block B on. -/
def OwnInts (B : Nat) (w : World) (v : Value) (l : List Int) : Prop :=
  ∃ p c, v = .slice p l.length c ∧ w.ownsRow B 2 1 v l.length (intCells l)
theorem OwnInts.bl {B : Nat} {w w' : World} {v : Value} {l : List Int} (h : OwnInts B w v l) (hb : Below w.heap.size w w') : OwnInts B w' v l := by
  obtain ⟨p, c, hv, ho⟩ := h
  exact ⟨p, c, hv, own_below ho hb (Nat.le_refl _)⟩
theorem OwnInts.mono {B B' : Nat} {w : World} {v : Value} {l : List Int} (h : OwnInts B w v l) (hb : B' ≤ B) : OwnInts B' w v l := by
  obtain ⟨p, c, hv, ho⟩ := h
  exact ⟨p, c, hv, own_mono ho hb⟩
theorem OwnInts.nil (B : Nat) (w : World) : OwnInts B w (.slice none 0 0) [] := ⟨none, 0, rfl, World.ownsRow_nil _ _ _ _⟩
theorem OwnInts.form {B : Nat} {w : World} {v : Value} {l : List Int} (h : OwnInts B w v l) : ∃ p c, v = .slice p l.length c := by
  obtain ⟨p, c, hv, _⟩ := h
  exact ⟨p, c, hv⟩
theorem OwnInts.ge {B : Nat} {w : World} {v : Value} {l : List Int} (h : OwnInts B w v l) : ∀ k, v.ownBlock = some k → B ≤ k ∧ k < w.heap.size := by
  obtain ⟨p, c, hv, ho⟩ := h
  exact ho.lt
theorem OwnInts.rd {B : Nat} {w : World} {p : Option Addr} {n c : Nat} {l : List Int} (h : OwnInts B w (.slice p n c) l) : Rd w p l.length (intAt l) := by
  obtain ⟨p', c', hv, ho⟩ := h
  simp only [Value.slice.injEq] at hv
  obtain ⟨rfl, rfl, rfl⟩ := hv
  have := Rd.of_own ho (intCells_at l)
  rwa [intCells_len] at this
theorem OwnInts.grown {B : Nat} {w w' : World} {v : Value} {l : List Int} (h : OwnInts B w v l) {r : Option Nat} (hg : w.grownBy w' r) (hr : ∀ k, v.ownBlock = some k → some k ≠ r) : OwnInts B w' v l := by
  obtain ⟨p, c, hv, ho⟩ := h
  refine ⟨p, c, hv, ho.kept hg ?_⟩
  cases hk : v.ownBlock with
  | none => exact .inl rfl
  | some k => exact .inr (hr k hk)
theorem OwnInts.grow {B : Nat} {w w' : World} {v : Value} {l : List Int} (h : OwnInts B w v l) {r : Option Nat} (hg : w.grownBy w' r) (hr : ∀ k g, v.ownBlock = some k → r = some g → k ≠ g) : OwnInts B w' v l :=
  h.grown hg (fun k hk e => by cases r with | none => cases e | some g => exact hr k g hk rfl (by cases e; rfl))
theorem OwnInts.row {B : Nat} {w : World} {p : Option Addr} {n c : Nat} {l : List Int} (h : OwnInts B w (.slice p n c) l) : n = l.length ∧ (l = [] ∨ ∃ g m f, p = some ⟨g, 0, none⟩ ∧ B ≤ g ∧ g < w.heap.size ∧ l.length ≤ m ∧ w.rowIs g 2 m f) := by
  obtain ⟨p', c', hv, ho⟩ := h
  simp only [Value.slice.injEq] at hv
  obtain ⟨rfl, rfl, rfl⟩ := hv
  refine ⟨rfl, ?_⟩
  rcases ho.2 with ⟨_, h0⟩ | ⟨g, cap, cur, hv, hb, hg, hn, hm, hs, _⟩
  · exact .inl (List.length_eq_zero_iff.1 h0)
  · simp only [Value.slice.injEq] at hv
    refine .inr ⟨g, cur.size, fun i => (cur[i]?).getD undef, hv.1, hb, (Array.getElem?_eq_some_iff.1 hg).1, by omega, cur, hg, rfl, fun i hi => by simp [hi]⟩

theorem info_i64 : (Try.prog.info? 2).map (fun i => (i.zero, i.size, i.bytes)) = some (some (.int .i64 0), 1, 8) := by kernel_rfl

set_option maxHeartbeats 400000 in
theorem eqInt64S_same (p q : Option Addr) (c d : Nat) (l : List Int) (w : World) (hn : l.length ≤ 1048576) (hr : Rd w p l.length (intAt l)) (hq : Rd w q l.length (intAt l)) :
    Calls Try.prog 32 #[.slice p l.length c, .slice q l.length d] w fun e w' => e = .returned (.bool true) ∧ ∃ n, w' = w.drewN n := by
  go_enter Try.func32, Try.ntmps32
  go_wp2
  go_loopw [5] (fun i wr => ∃ k : Nat, k ≤ l.length ∧ i = .int .i64 k ∧ (∃ n, wr = w.drewN n)) (fun i _ => l.length - (intOf i).toNat)
  case atStart => exact ⟨0, Nat.zero_le _, rfl, ⟨0, rfl⟩⟩
  case round =>
    obtain ⟨k, hk, rfl, ⟨n, rfl⟩⟩ := hrel
    by_cases hkn : k < l.length
    · obtain ⟨b, o, rfl, hb, hc⟩ := hr.at hkn
      obtain ⟨b', o', rfl, hb', hc'⟩ := hq.at hkn
      have h1 := hc k hkn
      have h2 := hc' k hkn
      unfold intAt at h1 h2
      clear hc hc' hr hq
      generalize l.getD k 0 = x at *
      go_wp2
      go_quiet (fail)
      go_wp2
      go_roundw
      case rel => exact ⟨k + 1, by omega, by go_num, ⟨_, rfl⟩⟩
      case measure => simp [intOf]; omega
    · obtain rfl : k = l.length := by omega
      go_wp2
      go_ret
      exact ⟨rfl, n, rfl⟩
/-- The marks k, k + 1, .. as numbers. -/
def numAt (k : Nat) (i : Nat) : Value := .int .i64 ((k + i : Nat) : Int)
theorem marked_step {f : Nat → Value} {k j : Nat} {w : World} {g : Nat} {t : TypeId} {m : Nat} (h : w.rowIs g t m (fun i => if i < j then numAt k i else f i)) :
    (w.setCell ⟨g, j, none⟩ (.int .i64 ((k + j : Nat) : Int))).rowIs g t m (fun i => if i < j + 1 then numAt k i else f i) :=
  (h.set j (numAt k j)).congr (fun i _ => by
    by_cases e : i = j
    · subst e; simp
    · by_cases l : i < j
      · simp [e, l, show i < j + 1 by omega]
      · simp [e, l, show ¬ i < j + 1 by omega])
set_option maxHeartbeats 400000 in
theorem markInt64S_nil (p : Option Addr) (c : Nat) (k : Int) (w : World) :
    Calls Try.prog 33 #[.slice p 0 c, .int .i64 k] w fun e w' => e = .returned (.int .i64 k) ∧ w = w' := by
  go_enter Try.func33, Try.ntmps33
  go_wp2
  refine wp_loop_rounds 1 ?_
  rw [rounds_succ]
  go_wp2
  go_ret
  exact ⟨rfl, rfl⟩
set_option maxHeartbeats 1000000 in
theorem markInt64S_any (g n c : Nat) (f : Nat → Value) (m : Nat) (t : TypeId) (k : Nat) (w : World) (hn : n ≤ 1048576) (hm : n ≤ m) (h0 : 0 < k) (h1 : k ≤ 1073741824) (hr : w.rowIs g t m f) :
    Calls Try.prog 33 #[.slice (some ⟨g, 0, none⟩) n c, .int .i64 k] w fun e w' => e = .returned (.int .i64 ((k + n : Nat) : Int)) ∧ w'.rowIs g t m (fun i => if i < n then numAt k i else f i) ∧ w.grownBy w' (some g) := by
  go_enter Try.func33, Try.ntmps33
  go_wp2
  go_loopw [1, 5] (fun kk i wr => ∃ j : Nat, j ≤ n ∧ i = .int .i64 j ∧ kk = .int .i64 ((k + j : Nat) : Int) ∧ wr.rowIs g t m (fun i => if i < j then numAt k i else f i) ∧ w.grownBy wr (some g)) (fun _ i _ => n - (intOf i).toNat)
  case atStart => exact ⟨0, Nat.zero_le _, rfl, rfl, hr.congr (fun i _ => by simp), grown_refl _ _⟩
  case round =>
    obtain ⟨j, hj, rfl, rfl, hrow, hgr⟩ := hrel
    by_cases hlt : j < n
    · have hc := hrow.cell (i := j) (by omega)
      have hf := hrow.frozen j
      have r1 := marked_step hrow
      have g1 := grown_setCell hgr j (.int .i64 ((k + j : Nat) : Int))
      have e0 : ((k + j : Nat) : Int) = (k : Int) + (j : Int) := by omega
      rw [e0] at r1 g1
      clear e0 hrow hgr hr
      go_wp2
      go_roundw
      case rel => exact ⟨j + 1, by omega, by go_num, by go_num, r1, g1⟩
      case measure => simp [intOf]; omega
    · obtain rfl : j = n := by omega
      go_wp2
      go_ret
      exact ⟨ret_int (by omega), hrow, hgr⟩
theorem markInt64S_own {B : Nat} {w : World} {p : Option Addr} {n c : Nat} {l : List Int} (h : OwnInts B w (.slice p n c) l) (hn : l.length ≤ 1048576) (k : Nat) (h0 : 0 < k) (h1 : k ≤ 1073741824) :
    Calls Try.prog 33 #[.slice p n c, .int .i64 k] w fun e w' => e = .returned (.int .i64 ((k + l.length : Nat) : Int)) ∧ Rd w' p l.length (numAt k) ∧ w.grownBy w' (Value.slice p n c).ownBlock := by
  obtain ⟨rfl, hr⟩ := h.row
  rcases hr with rfl | ⟨g, m, f, rfl, hg, hlt, hm, hrow⟩
  · refine (markInt64S_nil p c k w).mono ?_
    rintro e w1 ⟨rfl, rfl⟩
    exact ⟨rfl, .inl rfl, grown_refl _ _⟩
  · refine (markInt64S_any g l.length c f m _ k w hn hm h0 h1 hrow).mono fun e w' ⟨he, hr, hgr⟩ => ⟨he, ?_, hgr⟩
    exact (Rd.of_row hr hm).congr (fun i hi => by simp [hi])
set_option maxHeartbeats 1000000 in
theorem heldInt64S_any (p : Option Addr) (n c : Nat) (k : Nat) (w : World) (hn : n ≤ 1048576) (h0 : 0 < k) (h1 : k ≤ 1073741824) (hr : Rd w p n (numAt k)) :
    Calls Try.prog 34 #[.slice p n c, .int .i64 k] w fun e w' => e = .returned (.int .i64 ((k + n : Nat) : Int)) ∧ w = w' := by
  go_enter Try.func34, Try.ntmps34
  go_wp2
  go_loop [1, 5] (fun kk i => ∃ j : Nat, j ≤ n ∧ i = .int .i64 j ∧ kk = .int .i64 ((k + j : Nat) : Int)) (fun _ i => n - (intOf i).toNat)
  case atStart => exact ⟨0, Nat.zero_le _, rfl, rfl⟩
  case round =>
    obtain ⟨j, hj, rfl, rfl⟩ := hrel
    by_cases hlt : j < n
    · obtain ⟨b, o, rfl, hb, hc⟩ := hr.at hlt
      have c0 := hc j hlt
      rw [numAt] at c0
      have e0 : ((k + j : Nat) : Int) = (k : Int) + (j : Int) := by omega
      rw [e0] at c0
      clear hc hr e0
      go_wp2
      go_round
      case rel => exact ⟨j + 1, by omega, by go_num, by go_num⟩
      case measure => simp [intOf]; omega
    · obtain rfl : j = n := by omega
      go_wp2
      go_ret
      exact ⟨ret_int (by omega), rfl⟩

/-- A slice of slices of numbers. -/
def RdSS (w : World) (p : Option Addr) (L : List (List Int)) : Prop :=
  ∃ vs : Nat → Value, Rd w p L.length vs ∧ ∀ i, i < L.length → ∃ q d, vs i = .slice q (L.getD i []).length d ∧ Rd w q (L.getD i []).length (intAt (L.getD i []))
theorem RdSS.bl {w w' : World} {p : Option Addr} {L : List (List Int)} (h : RdSS w p L) (hb : Below w.heap.size w w') : RdSS w' p L := by
  obtain ⟨vs, h1, h2⟩ := h
  refine ⟨vs, h1.bl hb, fun i hi => ?_⟩
  obtain ⟨q, d, e, hr⟩ := h2 i hi
  exact ⟨q, d, e, hr.bl hb⟩
theorem info_ints : (Try.prog.info? 47).map (fun i => (i.zero, i.size, i.bytes)) = some (some (.slice none 0 0), 1, 24) := by kernel_rfl
theorem one_slice (p : Option Addr) (n c : Nat) : ∀ u ∈ (#[Value.slice p n c] : Array Value).toList, u.oneCell' = true := by simp [Value.oneCell']

/-- A slice of slices of the call's own, from block B on; no two of them share a block. -/
structure OwnIntss (B : Nat) (w : World) (v : Value) (L : List (List Int)) (vs : Nat → Value) : Prop where
  own : ∃ p c, v = .slice p L.length c ∧ w.ownsRow B 47 1 v L.length ((List.range L.length).map vs)
  inner : ∀ i, i < L.length → OwnInts B w (vs i) (L.getD i [])
  apart : ∀ i j, i < L.length → j < L.length → i ≠ j → ∀ k, (vs i).ownBlock = some k → (vs j).ownBlock ≠ some k
  apart0 : ∀ i, i < L.length → ∀ k, (vs i).ownBlock = some k → v.ownBlock ≠ some k
/-- .. whichever these are. -/
def OwnSS (B : Nat) (w : World) (v : Value) (L : List (List Int)) : Prop := ∃ vs, OwnIntss B w v L vs
theorem OwnIntss.bl {B : Nat} {w w' : World} {v : Value} {L : List (List Int)} {vs : Nat → Value} (h : OwnIntss B w v L vs) (hb : Below w.heap.size w w') : OwnIntss B w' v L vs := by
  obtain ⟨p, c, hv, ho⟩ := h.own
  exact ⟨⟨p, c, hv, own_below ho hb (Nat.le_refl _)⟩, fun i hi => (h.inner i hi).bl hb, h.apart, h.apart0⟩
theorem OwnIntss.mono {B B' : Nat} {w : World} {v : Value} {L : List (List Int)} {vs : Nat → Value} (h : OwnIntss B w v L vs) (hb : B' ≤ B) : OwnIntss B' w v L vs := by
  obtain ⟨p, c, hv, ho⟩ := h.own
  exact ⟨⟨p, c, hv, own_mono ho hb⟩, fun i hi => (h.inner i hi).mono hb, h.apart, h.apart0⟩
theorem OwnIntss.nil (B : Nat) (w : World) : OwnIntss B w (.slice none 0 0) [] (fun _ => undef) :=
  ⟨⟨none, 0, rfl, World.ownsRow_nil _ _ _ _⟩, fun i hi => absurd hi (Nat.not_lt_zero _), fun i _ hi => absurd hi (Nat.not_lt_zero _), fun i hi => absurd hi (Nat.not_lt_zero _)⟩
theorem OwnIntss.start {B : Nat} {w : World} {v : Value} (h : w.ownsRow B 47 1 v 0 []) (hv : ∃ p c, v = .slice p 0 c) : OwnIntss B w v [] (fun _ => undef) := by
  obtain ⟨p, c, rfl⟩ := hv
  exact ⟨⟨p, c, rfl, h⟩, fun i hi => absurd hi (Nat.not_lt_zero _), fun i _ hi => absurd hi (Nat.not_lt_zero _), fun i hi => absurd hi (Nat.not_lt_zero _)⟩
theorem OwnIntss.form {B : Nat} {w : World} {v : Value} {L : List (List Int)} {vs : Nat → Value} (h : OwnIntss B w v L vs) : ∃ p c, v = .slice p L.length c := by
  obtain ⟨p, c, hv, _⟩ := h.own
  exact ⟨p, c, hv⟩
theorem OwnIntss.grown {B : Nat} {w w' : World} {v : Value} {L : List (List Int)} {vs : Nat → Value} (h : OwnIntss B w v L vs) {r : Option Nat} (hg : w.grownBy w' r) (hr : ∀ k, v.ownBlock = some k → some k ≠ r)
    (hi : ∀ i, i < L.length → ∀ k, (vs i).ownBlock = some k → some k ≠ r) : OwnIntss B w' v L vs := by
  obtain ⟨p, c, hv, ho⟩ := h.own
  refine ⟨⟨p, c, hv, ho.kept hg ?_⟩, fun i hl => (h.inner i hl).grown hg (hi i hl), h.apart, h.apart0⟩
  cases hk : v.ownBlock with
  | none => exact .inl rfl
  | some k => exact .inr (hr k hk)
theorem getD_snoc_lt {α : Type} {L : List α} {x d : α} {i : Nat} (h : i < L.length) : (L ++ [x]).getD i d = L.getD i d := by
  simp [List.getD, List.getElem?_append_left h]
theorem getD_snoc_eq {α : Type} {L : List α} {x d : α} : (L ++ [x]).getD L.length d = x := by simp [List.getD]
/-- A row more: it lies in a block that is younger than all others. -/
theorem OwnIntss.push {B : Nat} {wo w1 w2 : World} {v x v' : Value} {L : List (List Int)} {l : List Int} {vs : Nat → Value} (h : OwnIntss B wo v L vs) (hb : Below wo.heap.size wo w1) (hx : OwnInts wo.heap.size w1 x l)
    (hB : B ≤ wo.heap.size) (hgr : w1.grownBy w2 v.ownBlock) (hat : v.ownBlock = v'.ownBlock ∨ (∀ k, v'.ownBlock = some k → w1.heap.size ≤ k))
    (hv' : ∃ p c, v' = .slice p (L.length + 1) c) (ho : w2.ownsRow B 47 1 v' (L.length + 1) ((List.range L.length).map vs ++ [x])) :
    OwnIntss B w2 v' (L ++ [l]) (fun i => if i = L.length then x else vs i) := by
  have hlt : ∀ i, i < L.length → ∀ k, (vs i).ownBlock = some k → k < wo.heap.size := fun i hi k hk => ((h.inner i hi).ge k hk).2
  have hne : ∀ k, x.ownBlock = some k → v.ownBlock ≠ some k := fun k hk e => by
    obtain ⟨p, c, hv, hov⟩ := h.own
    have := (hov.lt k e).2
    have := (hx.ge k hk).1
    omega
  have hcells : (List.range (L ++ [l]).length).map (fun i => if i = L.length then x else vs i) = (List.range L.length).map vs ++ [x] := by
    rw [List.length_append, List.length_singleton, List.range_succ, List.map_append]
    congr 1
    · exact List.map_congr_left (fun i hi => by rw [if_neg (by have := List.mem_range.1 hi; omega)])
    · simp
  refine ⟨?_, ?_, ?_, ?_⟩
  · obtain ⟨p, c, rfl⟩ := hv'
    refine ⟨p, c, by simp, ?_⟩
    rw [hcells]
    simpa using ho
  · intro i hi
    rw [List.length_append, List.length_singleton] at hi
    by_cases e : i = L.length
    · subst e
      rw [if_pos rfl, getD_snoc_eq]
      exact (hx.grown hgr (fun k hk e => hne k hk e.symm)).mono hB
    · rw [if_neg e, getD_snoc_lt (by omega)]
      exact ((h.inner i (by omega)).bl hb).grown hgr (fun k hk e' => h.apart0 i (by omega) k hk e'.symm)
  · intro i j hi hj hij k hk
    rw [List.length_append, List.length_singleton] at hi hj
    by_cases e : i = L.length
    · by_cases e' : j = L.length
      · omega
      · simp only [if_pos e] at hk
        simp only [if_neg e']
        intro h'
        have := hlt j (by omega) k h'
        have := (hx.ge k hk).1
        omega
    · simp only [if_neg e] at hk
      by_cases e' : j = L.length
      · simp only [if_pos e']
        intro h'
        have := hlt i (by omega) k hk
        have := (hx.ge k h').1
        omega
      · simp only [if_neg e']
        exact h.apart i j (by omega) (by omega) hij k hk
  · intro i hi k hk
    rw [List.length_append, List.length_singleton] at hi
    have hk1 : k < w1.heap.size ∧ v.ownBlock ≠ some k := by
      by_cases e : i = L.length
      · simp only [if_pos e] at hk
        exact ⟨(hx.ge k hk).2, hne k hk⟩
      · simp only [if_neg e] at hk
        have := hlt i (by omega) k hk
        exact ⟨Nat.lt_of_lt_of_le this hb.size, h.apart0 i (by omega) k hk⟩
    rcases hat with e | e
    · rw [← e]; exact hk1.2
    · intro h'
      have := e k h'
      omega
theorem OwnIntss.at {B : Nat} {w : World} {v : Value} {L : List (List Int)} {vs : Nat → Value} (h : OwnIntss B w v L vs) {i : Nat} (hi : i < L.length) : OwnInts B w (vs i) (L.getD i []) := h.inner i hi
theorem range_cells {n : Nat} {vs : Nat → Value} : ∀ i (hi : i < ((List.range n).map vs).length), ((List.range n).map vs)[i] = vs i := by
  intro i hi
  simp
theorem OwnIntss.rd {B : Nat} {w : World} {p : Option Addr} {n c : Nat} {L : List (List Int)} {vs : Nat → Value} (h : OwnIntss B w (.slice p n c) L vs) : Rd w p L.length vs := by
  obtain ⟨p', c', hv, ho⟩ := h.own
  simp only [Value.slice.injEq] at hv
  obtain ⟨rfl, rfl, rfl⟩ := hv
  have := Rd.of_own ho range_cells
  simpa using this
theorem OwnIntss.rds {B : Nat} {w : World} {p : Option Addr} {n c : Nat} {L : List (List Int)} {vs : Nat → Value} (h : OwnIntss B w (.slice p n c) L vs) : RdSS w p L := by
  refine ⟨vs, h.rd, fun i hi => ?_⟩
  have h1 := h.inner i hi
  obtain ⟨q, d, e⟩ := h1.form
  rw [e] at h1
  exact ⟨q, d, e, h1.rd⟩
theorem OwnIntss.lt {B : Nat} {w : World} {v : Value} {L : List (List Int)} {vs : Nat → Value} (h : OwnIntss B w v L vs) : ∀ k, v.ownBlock = some k → B ≤ k ∧ k < w.heap.size := by
  obtain ⟨p, c, hv, ho⟩ := h.own
  exact ho.lt

/-- A world in which only reading has been done since. -/
def Drawn (w wr : World) : Prop := ∃ n, wr = w.drewN n
theorem Drawn.rd {w wr : World} (h : Drawn w wr) {p : Option Addr} {m : Nat} {f : Nat → Value} (hr : Rd w p m f) : Rd wr p m f := by
  obtain ⟨n, rfl⟩ := h
  exact hr
theorem Drawn.more {w wr : World} (h : Drawn w wr) (n : Nat) : Drawn w (wr.drewN n) := by
  obtain ⟨m, rfl⟩ := h
  exact ⟨m + n, World.drewN_drewN _ _ _⟩
set_option maxRecDepth 100000 in
set_option maxHeartbeats 1000000 in
theorem eqInt64SS_same (p q : Option Addr) (c d : Nat) (L : List (List Int)) (w : World) (hn : L.length ≤ 1048576) (hm : ∀ l ∈ L, l.length ≤ 1048576) (hr : RdSS w p L) (hq : RdSS w q L) :
    Calls Try.prog 42 #[.slice p L.length c, .slice q L.length d] w fun e w' => e = .returned (.bool true) ∧ ∃ n, w' = w.drewN n := by
  obtain ⟨vs, hr1, hr2⟩ := hr
  obtain ⟨us, hq1, hq2⟩ := hq
  go_enter Try.func42, Try.ntmps42
  go_wp2
  go_loopw [5] (fun i wr => ∃ k : Nat, k ≤ L.length ∧ i = .int .i64 k ∧ Drawn w wr) (fun i _ => L.length - (intOf i).toNat)
  case atStart => exact ⟨0, Nat.zero_le _, rfl, 0, rfl⟩
  case round =>
    obtain ⟨k, hk, rfl, D⟩ := hrel
    by_cases hkn : k < L.length
    · obtain ⟨b, o, rfl, hb, hc⟩ := (D.rd hr1).at hkn
      obtain ⟨b', o', rfl, hb', hc'⟩ := (D.rd hq1).at hkn
      have h1 := hc k hkn
      have h2 := hc' k hkn
      obtain ⟨p1, d1, e1, g1⟩ := hr2 k hkn
      obtain ⟨p2, d2, e2, g2⟩ := hq2 k hkn
      replace g1 := D.rd g1
      replace g2 := D.rd g2
      rw [e1] at h1
      rw [e2] at h2
      have hl : (L.getD k []).length ≤ 1048576 := hm _ (by simp [List.getD, List.getElem?_eq_getElem hkn])
      clear hc hc' hr1 hq1 hr2 hq2 hm e1 e2
      generalize L.getD k [] = l at *
      have hcall : ∀ m, Calls Try.prog 32 #[.slice p1 l.length d1, .slice p2 l.length d2] (wr.drewN m) fun e w' => e = .returned (.bool true) ∧ ∃ n, w' = (wr.drewN m).drewN n :=
        fun m => eqInt64S_same p1 p2 d1 d2 l (wr.drewN m) hl g1 g2
      have Hcall := Lib.hid hcall; clear hcall
      have G1 := Lib.hid g1; clear g1
      have G2 := Lib.hid g2; clear g2
      go_wp2_with fail
      go_quiet ((go_at_call 32; exact Calls.quiet_of (Hcall.out _)))
      replace D := D.more nq
      go_wp2
      go_roundw
      case rel => exact ⟨k + 1, by omega, by go_num, D⟩
      case measure => simp [intOf]; omega
    · obtain rfl : k = L.length := by omega
      obtain ⟨n, rfl⟩ := D
      go_wp2
      go_ret
      exact ⟨rfl, n, rfl⟩
end Go.Proofs.Ytnenogpagkepfaa
