/- Slices of numbers and slices of these: how they read, which are the call's own; the laws' helpers over them. -/
import Derived.Test.YtdjjfgkcheimjaaDoorLawStr
set_option linter.unusedVariables false
namespace Go.Proofs.YtdjjfgkcheimjaaDoor
open Go.RowKit

/-- The cells of a list of numbers. -/
def intCells (l : List Int) : List Value := l.map (Value.int .i64)
def intAt (l : List Int) (i : Nat) : Value := .int .i64 (l.getD i 0)
theorem intCells_len (l : List Int) : (intCells l).length = l.length := by simp [intCells]
theorem intCells_snoc (l : List Int) (x : Int) : intCells (l ++ [x]) = intCells l ++ [.int .i64 x] := by simp [intCells]
theorem intCells_at (l : List Int) : ∀ i (hi : i < (intCells l).length), (intCells l)[i] = intAt l i := by
  intro i hi
  have hi' : i < l.length := by rw [intCells_len] at hi; exact hi
  simp [intCells, intAt, List.getD, List.getElem?_eq_getElem hi']

/-- A slice of numbers of the call's own, from block B on. -/
def OwnInts (B : Nat) (w : World) (v : Value) (l : List Int) : Prop :=
  ∃ p c, v = .slice p l.length c ∧ w.ownsRow B 2 1 v l.length (intCells l)
theorem OwnInts.bl {B : Nat} {w w' : World} {v : Value} {l : List Int} (h : OwnInts B w v l) (hb : Below w.heap.size w w') : OwnInts B w' v l := by
  obtain ⟨p, c, hv, ho⟩ := h
  exact ⟨p, c, hv, own_below ho hb (Nat.le_refl _)⟩
theorem OwnInts.mono {B B' : Nat} {w : World} {v : Value} {l : List Int} (h : OwnInts B w v l) (hb : B' ≤ B) : OwnInts B' w v l := by
  obtain ⟨p, c, hv, ho⟩ := h
  exact ⟨p, c, hv, own_mono ho hb⟩
theorem OwnInts.nil (B : Nat) (w : World) : OwnInts B w (.slice none 0 0) [] := ⟨none, 0, rfl, World.ownsRow_nil _ _ _ _⟩
theorem OwnInts.form {B : Nat} {w : World} {v : Value} {l : List Int} (h : OwnInts B w v l) : ∃ p c, v = .slice p l.length c := by
  obtain ⟨p, c, hv, _⟩ := h
  exact ⟨p, c, hv⟩
theorem OwnInts.ge {B : Nat} {w : World} {v : Value} {l : List Int} (h : OwnInts B w v l) : ∀ k, v.ownBlock = some k → B ≤ k ∧ k < w.heap.size := by
  obtain ⟨p, c, hv, ho⟩ := h
  exact ho.lt
theorem OwnInts.rd {B : Nat} {w : World} {p : Option Addr} {n c : Nat} {l : List Int} (h : OwnInts B w (.slice p n c) l) : Rd w p l.length (intAt l) := by
  obtain ⟨p', c', hv, ho⟩ := h
  simp only [Value.slice.injEq] at hv
  obtain ⟨rfl, rfl, rfl⟩ := hv
  have := Rd.of_own ho (intCells_at l)
  rwa [intCells_len] at this
theorem OwnInts.grown {B : Nat} {w w' : World} {v : Value} {l : List Int} (h : OwnInts B w v l) {r : Option Nat} (hg : w.grownBy w' r) (hr : ∀ k, v.ownBlock = some k → some k ≠ r) : OwnInts B w' v l := by
  obtain ⟨p, c, hv, ho⟩ := h
  refine ⟨p, c, hv, ho.kept hg ?_⟩
  cases hk : v.ownBlock with
  | none => exact .inl rfl
  | some k => exact .inr (hr k hk)
theorem OwnInts.grow {B : Nat} {w w' : World} {v : Value} {l : List Int} (h : OwnInts B w v l) {r : Option Nat} (hg : w.grownBy w' r) (hr : ∀ k g, v.ownBlock = some k → r = some g → k ≠ g) : OwnInts B w' v l :=
  h.grown hg (fun k hk e => by cases r with | none => cases e | some g => exact hr k g hk rfl (by cases e; rfl))
theorem OwnInts.row {B : Nat} {w : World} {p : Option Addr} {n c : Nat} {l : List Int} (h : OwnInts B w (.slice p n c) l) : n = l.length ∧ (l = [] ∨ ∃ g m f, p = some ⟨g, 0, none⟩ ∧ B ≤ g ∧ g < w.heap.size ∧ l.length ≤ m ∧ w.rowIs g 2 m f) := by
  obtain ⟨p', c', hv, ho⟩ := h
  simp only [Value.slice.injEq] at hv
  obtain ⟨rfl, rfl, rfl⟩ := hv
  refine ⟨rfl, ?_⟩
  rcases ho.2 with ⟨_, h0⟩ | ⟨g, cap, cur, hv, hb, hg, hn, hm, hs, _⟩
  · exact .inl (List.length_eq_zero_iff.1 h0)
  · simp only [Value.slice.injEq] at hv
    refine .inr ⟨g, cur.size, fun i => (cur[i]?).getD undef, hv.1, hb, (Array.getElem?_eq_some_iff.1 hg).1, by omega, cur, hg, rfl, fun i hi => by simp [hi]⟩

theorem info_i64 : (Tryd.prog.info? 2).map (fun i => (i.zero, i.size, i.bytes)) = some (some (.int .i64 0), 1, 8) := by kernel_rfl

set_option maxHeartbeats 400000 in
theorem eqInt64S_same (p q : Option Addr) (c d : Nat) (l : List Int) (w : World) (hn : l.length ≤ 1048576) (hr : Rd w p l.length (intAt l)) (hq : Rd w q l.length (intAt l)) :
    Calls Tryd.prog 10 #[.slice p l.length c, .slice q l.length d] w fun e w' => e = .returned (.bool true) ∧ ∃ n, w' = w.drewN n := by
  go_enter Tryd.func10, Tryd.ntmps10
  go_wp2
  go_loopw [5] (fun i wr => ∃ k : Nat, k ≤ l.length ∧ i = .int .i64 k ∧ (∃ n, wr = w.drewN n)) (fun i _ => l.length - (intOf i).toNat)
  case atStart => exact ⟨0, Nat.zero_le _, rfl, ⟨0, rfl⟩⟩
  case round =>
    obtain ⟨k, hk, rfl, ⟨n, rfl⟩⟩ := hrel
    by_cases hkn : k < l.length
    · obtain ⟨b, o, rfl, hb, hc⟩ := hr.at hkn
      obtain ⟨b', o', rfl, hb', hc'⟩ := hq.at hkn
      have h1 := hc k hkn
      have h2 := hc' k hkn
      unfold intAt at h1 h2
      clear hc hc' hr hq
      generalize l.getD k 0 = x at *
      go_wp2
      go_quiet (fail)
      go_wp2
      go_roundw
      case rel => exact ⟨k + 1, by omega, by go_num, ⟨_, rfl⟩⟩
      case measure => simp [intOf]; omega
    · obtain rfl : k = l.length := by omega
      go_wp2
      go_ret
      exact ⟨rfl, n, rfl⟩
/-- The marks k, k + 1, .. as numbers. -/
def numAt (k : Nat) (i : Nat) : Value := .int .i64 ((k + i : Nat) : Int)
theorem marked_step {f : Nat → Value} {k j : Nat} {w : World} {g : Nat} {t : TypeId} {m : Nat} (h : w.rowIs g t m (fun i => if i < j then numAt k i else f i)) :
    (w.setCell ⟨g, j, none⟩ (.int .i64 ((k + j : Nat) : Int))).rowIs g t m (fun i => if i < j + 1 then numAt k i else f i) :=
  (h.set j (numAt k j)).congr (fun i _ => by
    by_cases e : i = j
    · subst e; simp
    · by_cases l : i < j
      · simp [e, l, show i < j + 1 by omega]
      · simp [e, l, show ¬ i < j + 1 by omega])
set_option maxHeartbeats 400000 in
theorem markInt64S_nil (p : Option Addr) (c : Nat) (k : Int) (w : World) :
    Calls Tryd.prog 11 #[.slice p 0 c, .int .i64 k] w fun e w' => e = .returned (.int .i64 k) ∧ w = w' := by
  go_enter Tryd.func11, Tryd.ntmps11
  go_wp2
  refine wp_loop_rounds 1 ?_
  rw [rounds_succ]
  go_wp2
  go_ret
  exact ⟨rfl, rfl⟩
set_option maxHeartbeats 1000000 in
theorem markInt64S_any (g n c : Nat) (f : Nat → Value) (m : Nat) (t : TypeId) (k : Nat) (w : World) (hn : n ≤ 1048576) (hm : n ≤ m) (h0 : 0 < k) (h1 : k ≤ 1073741824) (hr : w.rowIs g t m f) :
    Calls Tryd.prog 11 #[.slice (some ⟨g, 0, none⟩) n c, .int .i64 k] w fun e w' => e = .returned (.int .i64 ((k + n : Nat) : Int)) ∧ w'.rowIs g t m (fun i => if i < n then numAt k i else f i) ∧ w.grownBy w' (some g) := by
  go_enter Tryd.func11, Tryd.ntmps11
  go_wp2
  go_loopw [1, 5] (fun kk i wr => ∃ j : Nat, j ≤ n ∧ i = .int .i64 j ∧ kk = .int .i64 ((k + j : Nat) : Int) ∧ wr.rowIs g t m (fun i => if i < j then numAt k i else f i) ∧ w.grownBy wr (some g)) (fun _ i _ => n - (intOf i).toNat)
  case atStart => exact ⟨0, Nat.zero_le _, rfl, rfl, hr.congr (fun i _ => by simp), grown_refl _ _⟩
  case round =>
    obtain ⟨j, hj, rfl, rfl, hrow, hgr⟩ := hrel
    by_cases hlt : j < n
    · have hc := hrow.cell (i := j) (by omega)
      have hf := hrow.frozen j
      have r1 := marked_step hrow
      have g1 := grown_setCell hgr j (.int .i64 ((k + j : Nat) : Int))
      have e0 : ((k + j : Nat) : Int) = (k : Int) + (j : Int) := by omega
      rw [e0] at r1 g1
      clear e0 hrow hgr hr
      go_wp2
      go_roundw
      case rel => exact ⟨j + 1, by omega, by go_num, by go_num, r1, g1⟩
      case measure => simp [intOf]; omega
    · obtain rfl : j = n := by omega
      go_wp2
      go_ret
      exact ⟨ret_int (by omega), hrow, hgr⟩
theorem markInt64S_own {B : Nat} {w : World} {p : Option Addr} {n c : Nat} {l : List Int} (h : OwnInts B w (.slice p n c) l) (hn : l.length ≤ 1048576) (k : Nat) (h0 : 0 < k) (h1 : k ≤ 1073741824) :
    Calls Tryd.prog 11 #[.slice p n c, .int .i64 k] w fun e w' => e = .returned (.int .i64 ((k + l.length : Nat) : Int)) ∧ Rd w' p l.length (numAt k) ∧ w.grownBy w' (Value.slice p n c).ownBlock := by
  obtain ⟨rfl, hr⟩ := h.row
  rcases hr with rfl | ⟨g, m, f, rfl, hg, hlt, hm, hrow⟩
  · refine (markInt64S_nil p c k w).mono ?_
    rintro e w1 ⟨rfl, rfl⟩
    exact ⟨rfl, .inl rfl, grown_refl _ _⟩
  · refine (markInt64S_any g l.length c f m _ k w hn hm h0 h1 hrow).mono fun e w' ⟨he, hr, hgr⟩ => ⟨he, ?_, hgr⟩
    exact (Rd.of_row hr hm).congr (fun i hi => by simp [hi])
set_option maxHeartbeats 1000000 in
theorem heldInt64S_any (p : Option Addr) (n c : Nat) (k : Nat) (w : World) (hn : n ≤ 1048576) (h0 : 0 < k) (h1 : k ≤ 1073741824) (hr : Rd w p n (numAt k)) :
    Calls Tryd.prog 12 #[.slice p n c, .int .i64 k] w fun e w' => e = .returned (.int .i64 ((k + n : Nat) : Int)) ∧ w = w' := by
  go_enter Tryd.func12, Tryd.ntmps12
  go_wp2
  go_loop [1, 5] (fun kk i => ∃ j : Nat, j ≤ n ∧ i = .int .i64 j ∧ kk = .int .i64 ((k + j : Nat) : Int)) (fun _ i => n - (intOf i).toNat)
  case atStart => exact ⟨0, Nat.zero_le _, rfl, rfl⟩
  case round =>
    obtain ⟨j, hj, rfl, rfl⟩ := hrel
    by_cases hlt : j < n
    · obtain ⟨b, o, rfl, hb, hc⟩ := hr.at hlt
      have c0 := hc j hlt
      rw [numAt] at c0
      have e0 : ((k + j : Nat) : Int) = (k : Int) + (j : Int) := by omega
      rw [e0] at c0
      clear hc hr e0
      go_wp2
      go_round
      case rel => exact ⟨j + 1, by omega, by go_num, by go_num⟩
      case measure => simp [intOf]; omega
    · obtain rfl : j = n := by omega
      go_wp2
      go_ret
      exact ⟨ret_int (by omega), rfl⟩
set_option maxHeartbeats 1000000 in
theorem toInt64S_any (p : Option Addr) (c : Nat) (l : List Int) (w : World) (hn : l.length ≤ 1048576) (hr : Rd w p l.length (intAt l)) :
    Calls Tryd.prog 21 #[.slice p l.length c] w fun e w' => ∃ g, e = .returned (.slice (some ⟨g, 0, none⟩) l.length l.length) ∧ w.heap.size ≤ g ∧ w'.rowIs g 2 l.length (intAt l) ∧ Below w.heap.size w w' := by
  have hmk := run_make_row' (P := Tryd.prog) 22 2 (.int .i64 0) 8 Tryd.underlying22 info_i64 rfl .i64 .i64 l.length (by omega) (by omega)
  go_enter Tryd.func21, Tryd.ntmps21
  go_wp2
  clear hmk
  go_loopw [4] (fun i wr => ∃ k : Nat, k ≤ l.length ∧ i = .int .i64 k ∧ Fill w wr 2 l.length k (intAt l) (.int .i64 0)) (fun i _ => l.length - (intOf i).toNat)
  case atStart => exact ⟨0, Nat.zero_le _, rfl, Fill.start _ _ _ _ _⟩
  case round =>
    obtain ⟨k, hk, rfl, hF⟩ := hrel
    by_cases hkn : k < l.length
    · obtain ⟨b, o, rfl, hb, hc⟩ := hr.at hkn
      have hck : wr.cell? ⟨b, o + k, none⟩ = some (intAt l k) := by rw [hF.below.cell (p := ⟨b, o + k, none⟩) hb]; exact hc k hkn
      have hst := hF.row.cell hkn
      have hfz := hF.row.frozen k
      have hN := hF.step
      obtain ⟨s, es⟩ : ∃ s, intAt l k = .int .i64 s := ⟨_, rfl⟩
      rw [es] at hck hN
      clear hc hr hF es
      go_wp2
      go_roundw
      case rel => exact ⟨k + 1, by omega, by go_num, hN⟩
      case measure => simp [intOf]; omega
    · obtain rfl : k = l.length := by omega
      go_wp2
      go_ret
      exact ⟨_, rfl, Nat.le_refl _, hF.done, hF.below⟩

end Go.Proofs.YtdjjfgkcheimjaaDoor
