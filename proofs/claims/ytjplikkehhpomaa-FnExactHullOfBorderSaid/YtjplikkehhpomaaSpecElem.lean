/- Contracts of the reference's and the program's ValidElement. -/
import Derived.Test.YtjplikkehhpomaaSpots
import Derived.Test.YtjplikkehhpomaaLawSpots
import Derived.Test.YtjplikkehhpomaaLawKit
import Derived.Test.YtjplikkehhpomaaBase
import Derived.IntWalk
set_option linter.unusedVariables false
namespace Go.Proofs.Ytjplikkehhpomaa
open Go.RowKit

/-- Does a spot come before another one? -/
def befB (s t : Int × Int) : Bool := decide (s.2 < t.2) || (decide (s.2 = t.2) && decide (s.1 < t.1))
/-- Is the spot i of a list within reach, and behind the one before it? -/
def elB (l : List (Int × Int)) (i : Nat) : Bool := inB (l.getD i (0, 0)).1 (-4) 4 && inB (l.getD i (0, 0)).2 (-4) 4 && (decide (i = 0) || befB (l.getD (i - 1) (0, 0)) (l.getD i (0, 0)))
def okEl (l : List (Int × Int)) : Bool := (List.range l.length).all (elB l) && inB l.length 1 50
def elTo (l : List (Int × Int)) (n : Nat) : Bool := (List.range n).all (elB l)
theorem elTo_succ (l : List (Int × Int)) (n : Nat) : elTo l (n + 1) = (elTo l n && elB l n) := by simp [elTo, List.range_succ, List.all_append]
theorem elTo_no (l : List (Int × Int)) (n : Nat) (hn : n < l.length) (h : elB l n = false) : okEl l = false := by
  have : (List.range l.length).all (elB l) = false := by
    rw [List.all_eq_false]
    exact ⟨n, List.mem_range.2 hn, by rw [h]; simp⟩
  simp [okEl, this]
theorem elTo_yes (l : List (Int × Int)) (h : elTo l l.length = true) : okEl l = inB l.length 1 50 := by
  have : (List.range l.length).all (elB l) = true := h
  simp [okEl, this]

def cmpZ (a b : Int) : Int := if a < b then -1 else if b < a then 1 else 0
/-- The order of spots as a number. -/
def ordZ (s t : Int × Int) : Int := if cmpZ s.2 t.2 = 0 then cmpZ s.1 t.1 else cmpZ s.2 t.2
theorem ordZ_bef (s t : Int × Int) : decide (0 ≤ ordZ s t) = !befB s t := by
  unfold ordZ cmpZ befB
  rcases Int.lt_trichotomy s.2 t.2 with h | h | h
  · simp [h]
  · rcases Int.lt_trichotomy s.1 t.1 with h' | h' | h'
    · simp [h, h']
    · simp [h, h']
    · have : ¬ s.1 < t.1 := by omega
      simp [h, h', this]
  · have h1 : ¬ s.2 < t.2 := by omega
    have h2 : ¬ s.2 = t.2 := by omega
    simp [h, h1, h2]
set_option maxHeartbeats 1000000 in
theorem isNaN_any (a : Int) (w : World) : Calls Try.prog 63 #[.int .i64 a] w fun e w' => e = .returned (.bool false) ∧ w = w' := by
  go_enter Try.func63, Try.ntmps63
  go_wp2
  go_ret
  exact ⟨rfl, rfl⟩
set_option maxHeartbeats 1000000 in
theorem compare_any (a b : Int) (w : World) : Calls Try.prog 40 #[.int .i64 a, .int .i64 b] w fun e w' => e = .returned (.int .i64 (cmpZ a b)) ∧ w = w' := by
  unfold cmpZ
  by_cases h1 : a < b
  · rw [if_pos h1]
    go_enter Try.func40, Try.ntmps40
    go_wp2_with (go_at_call 63; refine (isNaN_any _ _).mono ?_; rintro e w1 ⟨rfl, rfl⟩)
    go_ret
    exact ⟨rfl, rfl⟩
  · rw [if_neg h1]
    by_cases h2 : b < a
    · rw [if_pos h2]
      have h1' : b ≤ a := Int.not_lt.1 h1
      clear h1
      go_enter Try.func40, Try.ntmps40
      go_wp2_with (go_at_call 63; refine (isNaN_any _ _).mono ?_; rintro e w1 ⟨rfl, rfl⟩)
      go_ret
      exact ⟨rfl, rfl⟩
    · rw [if_neg h2]
      have h1' : b ≤ a := Int.not_lt.1 h1
      have h2' : a ≤ b := Int.not_lt.1 h2
      clear h1 h2
      go_enter Try.func40, Try.ntmps40
      go_wp2_with (go_at_call 63; refine (isNaN_any _ _).mono ?_; rintro e w1 ⟨rfl, rfl⟩)
      go_ret
      exact ⟨rfl, rfl⟩
set_option maxHeartbeats 1000000 in
theorem cmpOr_any (a b : Int) (g c : Nat) (w : World) (h0 : CellAt w g 0 (.int .i64 a)) (h1 : CellAt w g 1 (.int .i64 b)) :
    Calls Try.prog 39 #[.slice (some ⟨g, 0, none⟩) 2 c] w fun e w' => e = .returned (.int .i64 (if a = 0 then b else a)) ∧ w = w' := by
  have c0 := h0.out
  have c1 := h1.out
  clear h0 h1
  by_cases ha : a = 0
  · rw [if_pos ha]
    subst ha
    by_cases hb : b = 0
    · subst hb
      go_enter Try.func39, Try.ntmps39
      go_wp2
      refine wp_loop_rounds 3 ?_
      rw [rounds_succ]
      go_wp2
      rw [rounds_succ]
      go_wp2
      rw [rounds_succ]
      go_wp2
      go_ret
      exact ⟨rfl, rfl⟩
    · have hb' : (b != 0) = true := by simpa using hb
      go_enter Try.func39, Try.ntmps39
      go_wp2
      refine wp_loop_rounds 3 ?_
      rw [rounds_succ]
      go_wp2
      rw [rounds_succ]
      go_wp2
      go_ret
      exact ⟨rfl, rfl⟩
  · rw [if_neg ha]
    have ha' : (a != 0) = true := by simpa using ha
    go_enter Try.func39, Try.ntmps39
    go_wp2
    refine wp_loop_rounds 3 ?_
    rw [rounds_succ]
    go_wp2
    go_ret
    exact ⟨rfl, rfl⟩
theorem cmpOr_z (a b z : Int) (g c : Nat) (w : World) (hz : (if a = 0 then b else a) = z) (h0 : CellAt w g 0 (.int .i64 a)) (h1 : CellAt w g 1 (.int .i64 b)) :
    Calls Try.prog 39 #[.slice (some ⟨g, 0, none⟩) 2 c] w fun e w' => e = .returned (.int .i64 z) ∧ w = w' := hz ▸ cmpOr_any a b g c w h0 h1
set_option maxRecDepth 100000 in
set_option maxHeartbeats 4000000 in
theorem spotOrder_any (a b c d : Int) (w : World) :
    Calls Try.prog 44 #[.agg #[.int .i64 a, .int .i64 b], .agg #[.int .i64 c, .int .i64 d]] w fun e w' => e = .returned (.int .i64 (ordZ (a, b) (c, d))) ∧ Below w.heap.size w w' := by
  have A := (Blk.new w #[.int .i64 a, .int .i64 b] 28).alloc (.cells #[.int .i64 c, .int .i64 d] 28)
  have B := Blk.new (w.alloc (.cells #[.int .i64 a, .int .i64 b] 28)) #[.int .i64 c, .int .i64 d] 28
  simp only [World.size_alloc] at B
  have S := ((Since.refl w).alloc (.cells #[.int .i64 a, .int .i64 b] 28)).alloc (.cells #[.int .i64 c, .int .i64 d] 28)
  have C1 := A.cat 0 rfl
  have C2 := A.cat 1 rfl
  have C3 := B.cat 0 rfl
  have C4 := B.cat 1 rfl
  have D := Blk.new ((w.alloc (.cells #[.int .i64 a, .int .i64 b] 28)).alloc (.cells #[.int .i64 c, .int .i64 d] 28)) #[.int .i64 (cmpZ b d), .int .i64 (cmpZ a c)] 3
  simp only [World.size_alloc] at D
  have D1 := D.cat 0 rfl
  have D2 := D.cat 1 rfl
  clear A B D
  go_enter Try.func44, Try.ntmps44
  go_wp2
  go_region_held3 (fun w' => w'.cell? ⟨w.heap.size, 0, none⟩ = some (.int .i64 a) ∧ w'.cell? ⟨w.heap.size, 1, none⟩ = some (.int .i64 b) ∧ w'.cell? ⟨w.heap.size + 1, 0, none⟩ = some (.int .i64 c) ∧ w'.cell? ⟨w.heap.size + 1, 1, none⟩ = some (.int .i64 d))
    (first | ((repeat' (apply And.intro)) <;> (refine CellAt.out ?_; (repeat (first | assumption | exact Blk.cat (Blk.new _ _ _) _ rfl | refine CellAt.bl ?_ (bl_alloc _ _) | refine CellAt.bl ?_ (bl_drew _) | refine CellAt.bl ?_ (bl_drewN _ _) | refine CellAt.bl ?_ (by assumption) | refine CellAt.other ?_ (by intro e; injection e; omega) _)))))
    ((first | (go_at_call 40; refine (compare_any _ _ _).mono ?_; rintro e w1 ⟨rfl, rfl⟩) | (go_at_call 39; refine (cmpOr_z (cmpZ b d) (cmpZ a c) (ordZ (a, b) (c, d)) _ _ _ rfl ?_ ?_).mono ?_; (focus ((repeat (first | assumption | exact Blk.cat (Blk.new _ _ _) _ rfl | refine CellAt.bl ?_ (bl_alloc _ _) | refine CellAt.bl ?_ (bl_drew _) | refine CellAt.bl ?_ (bl_drewN _ _) | refine CellAt.bl ?_ (by assumption) | refine CellAt.other ?_ (by intro e; injection e; omega) _)); done)); (focus ((repeat (first | assumption | exact Blk.cat (Blk.new _ _ _) _ rfl | refine CellAt.bl ?_ (bl_alloc _ _) | refine CellAt.bl ?_ (bl_drew _) | refine CellAt.bl ?_ (bl_drewN _ _) | refine CellAt.bl ?_ (by assumption) | refine CellAt.other ?_ (by intro e; injection e; omega) _)); done)); rintro e w1 ⟨rfl, rfl⟩)))
  go_wp2
  go_ret
  exact ⟨rfl, by (repeat' (first | exact Below.refl _ _ | assumption | refine Below.drew ?_ | refine below_drewN ?_ _ | refine Below.alloc ?_ ?_ _ | refine Below.setCell ?_ ?_ _ | go_size))⟩
end Go.Proofs.Ytjplikkehhpomaa
