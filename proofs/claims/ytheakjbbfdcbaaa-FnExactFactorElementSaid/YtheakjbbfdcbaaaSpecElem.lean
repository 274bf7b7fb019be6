/- Contracts of the reference's and the program's ValidElement. -/
import Derived.Test.YtheakjbbfdcbaaaSpots
import Derived.Test.YtheakjbbfdcbaaaLawSpots
import Derived.Test.YtheakjbbfdcbaaaLawKit
import Derived.Test.YtheakjbbfdcbaaaBase
import Derived.IntWalk
set_option linter.unusedVariables false
namespace Go.Proofs.Ytheakjbbfdcbaaa
open Go.RowKit

/-- Does a spot come before another one? -/
def befB (s t : Int × Int) : Bool := decide (s.2 < t.2) || (decide (s.2 = t.2) && decide (s.1 < t.1))
/-- Is the spot i of a list within reach, and behind the one before it? -/
def elB (l : List (Int × Int)) (i : Nat) : Bool := inB (l.getD i (0, 0)).1 (-4) 4 && inB (l.getD i (0, 0)).2 (-4) 4 && (decide (i = 0) || befB (l.getD (i - 1) (0, 0)) (l.getD i (0, 0)))
def okEl (l : List (Int × Int)) : Bool := (List.range l.length).all (elB l) && inB l.length 1 50
def elTo (l : List (Int × Int)) (n : Nat) : Bool := (List.range n).all (elB l)
theorem elTo_succ (l : List (Int × Int)) (n : Nat) : elTo l (n + 1) = (elTo l n && elB l n) := by simp [elTo, List.range_succ, List.all_append]
theorem elTo_no (l : List (Int × Int)) (n : Nat) (hn : n < l.length) (h : elB l n = false) : okEl l = false := by
  have : (List.range l.length).all (elB l) = false := by
    rw [List.all_eq_false]
    exact ⟨n, List.mem_range.2 hn, by rw [h]; simp⟩
  simp [okEl, this]
theorem elTo_yes (l : List (Int × Int)) (h : elTo l l.length = true) : okEl l = inB l.length 1 50 := by
  have : (List.range l.length).all (elB l) = true := h
  simp [okEl, this]

set_option maxHeartbeats 1000000 in
theorem l03Before_any (a b c d : Int) (w : World) :
    Calls Try.prog 35 #[.agg #[.int .i64 a, .int .i64 b], .agg #[.int .i64 c, .int .i64 d]] w fun e w' => e = .returned (.bool (befB (a, b) (c, d))) ∧ Below w.heap.size w w' := by
  unfold befB
  dsimp only
  by_cases h1 : b < d
  · go_enter Try.func35, Try.ntmps35
    go_wp2
    go_ret
    exact ⟨by simp [h1], by (repeat' (first | exact Below.refl _ _ | assumption | refine Below.drew ?_ | refine below_drewN ?_ _ | refine Below.alloc ?_ ?_ _ | refine Below.setCell ?_ ?_ _ | go_size))⟩
  · by_cases h2 : b = d
    · subst h2
      go_enter Try.func35, Try.ntmps35
      go_wp2
      go_ret
      exact ⟨by simp, by (repeat' (first | exact Below.refl _ _ | assumption | refine Below.drew ?_ | refine below_drewN ?_ _ | refine Below.alloc ?_ ?_ _ | refine Below.setCell ?_ ?_ _ | go_size))⟩
    · have h3 : (b == d) = false := by simpa using h2
      go_enter Try.func35, Try.ntmps35
      go_wp2
      go_ret
      exact ⟨by simp [h1, h2], by (repeat' (first | exact Below.refl _ _ | assumption | refine Below.drew ?_ | refine below_drewN ?_ _ | refine Below.alloc ?_ ?_ _ | refine Below.setCell ?_ ?_ _ | go_size))⟩
def cmpZ (a b : Int) : Int := if a < b then -1 else if b < a then 1 else 0
/-- The order of spots as a number. -/
def ordZ (s t : Int × Int) : Int := if cmpZ s.2 t.2 = 0 then cmpZ s.1 t.1 else cmpZ s.2 t.2
theorem ordZ_bef (s t : Int × Int) : decide (0 ≤ ordZ s t) = !befB s t := by
  unfold ordZ cmpZ befB
  rcases Int.lt_trichotomy s.2 t.2 with h | h | h
  · simp [h]
  · rcases Int.lt_trichotomy s.1 t.1 with h' | h' | h'
    · simp [h, h']
    · simp [h, h']
    · have : ¬ s.1 < t.1 := by omega
      simp [h, h', this]
  · have h1 : ¬ s.2 < t.2 := by omega
    have h2 : ¬ s.2 = t.2 := by omega
    simp [h, h1, h2]
set_option maxHeartbeats 1000000 in
theorem isNaN_any (a : Int) (w : World) : Calls Try.prog 76 #[.int .i64 a] w fun e w' => e = .returned (.bool false) ∧ w = w' := by
  go_enter Try.func76, Try.ntmps76
  go_wp2
  go_ret
  exact ⟨rfl, rfl⟩
set_option maxHeartbeats 1000000 in
theorem compare_any (a b : Int) (w : World) : Calls Try.prog 63 #[.int .i64 a, .int .i64 b] w fun e w' => e = .returned (.int .i64 (cmpZ a b)) ∧ w = w' := by
  unfold cmpZ
  by_cases h1 : a < b
  · rw [if_pos h1]
    go_enter Try.func63, Try.ntmps63
    go_wp2_with (go_at_call 76; refine (isNaN_any _ _).mono ?_; rintro e w1 ⟨rfl, rfl⟩)
    go_ret
    exact ⟨rfl, rfl⟩
  · rw [if_neg h1]
    by_cases h2 : b < a
    · rw [if_pos h2]
      have h1' : b ≤ a := Int.not_lt.1 h1
      clear h1
      go_enter Try.func63, Try.ntmps63
      go_wp2_with (go_at_call 76; refine (isNaN_any _ _).mono ?_; rintro e w1 ⟨rfl, rfl⟩)
      go_ret
      exact ⟨rfl, rfl⟩
    · rw [if_neg h2]
      have h1' : b ≤ a := Int.not_lt.1 h1
      have h2' : a ≤ b := Int.not_lt.1 h2
      clear h1 h2
      go_enter Try.func63, Try.ntmps63
      go_wp2_with (go_at_call 76; refine (isNaN_any _ _).mono ?_; rintro e w1 ⟨rfl, rfl⟩)
      go_ret
      exact ⟨rfl, rfl⟩
set_option maxHeartbeats 1000000 in
theorem cmpOr_any (a b : Int) (g c : Nat) (w : World) (h0 : CellAt w g 0 (.int .i64 a)) (h1 : CellAt w g 1 (.int .i64 b)) :
    Calls Try.prog 62 #[.slice (some ⟨g, 0, none⟩) 2 c] w fun e w' => e = .returned (.int .i64 (if a = 0 then b else a)) ∧ w = w' := by
  have c0 := h0.out
  have c1 := h1.out
  clear h0 h1
  by_cases ha : a = 0
  · rw [if_pos ha]
    subst ha
    by_cases hb : b = 0
    · subst hb
      go_enter Try.func62, Try.ntmps62
      go_wp2
      refine wp_loop_rounds 3 ?_
      rw [rounds_succ]
      go_wp2
      rw [rounds_succ]
      go_wp2
      rw [rounds_succ]
      go_wp2
      go_ret
      exact ⟨rfl, rfl⟩
    · have hb' : (b != 0) = true := by simpa using hb
      go_enter Try.func62, Try.ntmps62
      go_wp2
      refine wp_loop_rounds 3 ?_
      rw [rounds_succ]
      go_wp2
      rw [rounds_succ]
      go_wp2
      go_ret
      exact ⟨rfl, rfl⟩
  · rw [if_neg ha]
    have ha' : (a != 0) = true := by simpa using ha
    go_enter Try.func62, Try.ntmps62
    go_wp2
    refine wp_loop_rounds 3 ?_
    rw [rounds_succ]
    go_wp2
    go_ret
    exact ⟨rfl, rfl⟩
theorem cmpOr_z (a b z : Int) (g c : Nat) (w : World) (hz : (if a = 0 then b else a) = z) (h0 : CellAt w g 0 (.int .i64 a)) (h1 : CellAt w g 1 (.int .i64 b)) :
    Calls Try.prog 62 #[.slice (some ⟨g, 0, none⟩) 2 c] w fun e w' => e = .returned (.int .i64 z) ∧ w = w' := hz ▸ cmpOr_any a b g c w h0 h1
set_option maxRecDepth 100000 in
set_option maxHeartbeats 4000000 in
theorem spotOrder_any (a b c d : Int) (w : World) :
    Calls Try.prog 40 #[.agg #[.int .i64 a, .int .i64 b], .agg #[.int .i64 c, .int .i64 d]] w fun e w' => e = .returned (.int .i64 (ordZ (a, b) (c, d))) ∧ Below w.heap.size w w' := by
  have A := (Blk.new w #[.int .i64 a, .int .i64 b] 45).alloc (.cells #[.int .i64 c, .int .i64 d] 45)
  have B := Blk.new (w.alloc (.cells #[.int .i64 a, .int .i64 b] 45)) #[.int .i64 c, .int .i64 d] 45
  simp only [World.size_alloc] at B
  have S := ((Since.refl w).alloc (.cells #[.int .i64 a, .int .i64 b] 45)).alloc (.cells #[.int .i64 c, .int .i64 d] 45)
  have C1 := A.cat 0 rfl
  have C2 := A.cat 1 rfl
  have C3 := B.cat 0 rfl
  have C4 := B.cat 1 rfl
  have D := Blk.new ((w.alloc (.cells #[.int .i64 a, .int .i64 b] 45)).alloc (.cells #[.int .i64 c, .int .i64 d] 45)) #[.int .i64 (cmpZ b d), .int .i64 (cmpZ a c)] 3
  simp only [World.size_alloc] at D
  have D1 := D.cat 0 rfl
  have D2 := D.cat 1 rfl
  clear A B D
  go_enter Try.func40, Try.ntmps40
  go_wp2
  go_region_held3 (fun w' => w'.cell? ⟨w.heap.size, 0, none⟩ = some (.int .i64 a) ∧ w'.cell? ⟨w.heap.size, 1, none⟩ = some (.int .i64 b) ∧ w'.cell? ⟨w.heap.size + 1, 0, none⟩ = some (.int .i64 c) ∧ w'.cell? ⟨w.heap.size + 1, 1, none⟩ = some (.int .i64 d))
    (first | ((repeat' (apply And.intro)) <;> (refine CellAt.out ?_; (repeat (first | assumption | exact Blk.cat (Blk.new _ _ _) _ rfl | refine CellAt.bl ?_ (bl_alloc _ _) | refine CellAt.bl ?_ (bl_drew _) | refine CellAt.bl ?_ (bl_drewN _ _) | refine CellAt.bl ?_ (by assumption) | refine CellAt.other ?_ (by intro e; injection e; omega) _)))))
    ((first | (go_at_call 63; refine (compare_any _ _ _).mono ?_; rintro e w1 ⟨rfl, rfl⟩) | (go_at_call 62; refine (cmpOr_z (cmpZ b d) (cmpZ a c) (ordZ (a, b) (c, d)) _ _ _ rfl ?_ ?_).mono ?_; (focus ((repeat (first | assumption | exact Blk.cat (Blk.new _ _ _) _ rfl | refine CellAt.bl ?_ (bl_alloc _ _) | refine CellAt.bl ?_ (bl_drew _) | refine CellAt.bl ?_ (bl_drewN _ _) | refine CellAt.bl ?_ (by assumption) | refine CellAt.other ?_ (by intro e; injection e; omega) _)); done)); (focus ((repeat (first | assumption | exact Blk.cat (Blk.new _ _ _) _ rfl | refine CellAt.bl ?_ (bl_alloc _ _) | refine CellAt.bl ?_ (bl_drew _) | refine CellAt.bl ?_ (bl_drewN _ _) | refine CellAt.bl ?_ (by assumption) | refine CellAt.other ?_ (by intro e; injection e; omega) _)); done)); rintro e w1 ⟨rfl, rfl⟩)))
  go_wp2
  go_ret
  exact ⟨rfl, by (repeat' (first | exact Below.refl _ _ | assumption | refine Below.drew ?_ | refine below_drewN ?_ _ | refine Below.alloc ?_ ?_ _ | refine Below.setCell ?_ ?_ _ | go_size))⟩
set_option maxRecDepth 100000 in
set_option maxHeartbeats 4000000 in
theorem l03Is_any (a : Nat) (p : Option Addr) (c : Nat) (l : List (Int × Int)) (w : World) (hn : l.length ≤ 1048576) (hA : CellAt w a 0 (.slice p l.length c)) (hr : Rd w p (l.length * 2) (spotAt l)) :
    Calls Try.prog 34 #[.pointer (some ⟨a, 0, none⟩)] w fun e w' => e = .returned (.bool (okEl l)) ∧ Below w.heap.size w w' := by
  have a0 := hA.out
  go_enter Try.func34, Try.ntmps34
  go_wp2
  go_loopw [4] (fun i wr => ∃ j : Nat, j ≤ l.length ∧ i = .int .i64 j ∧ elTo l j = true ∧ Since w wr) (fun i _ => l.length - (intOf i).toNat)
  case atStart => exact ⟨0, Nat.zero_le _, rfl, rfl, Since.refl w⟩
  case round =>
    clear a0
    obtain ⟨j, hj, rfl, hall, S⟩ := hrel
    have hA1 := hA.bl S.below
    have a0 := hA1.out
    by_cases hlt : j < l.length
    · obtain ⟨b, o, rfl, hb, hc⟩ := (hr.below S.below (Nat.le_refl _)).at (k := j * 2) (by omega)
      have c0 := hc (j * 2) (by omega)
      have c1 := hc (j * 2 + 1) (by omega)
      rw [spotAt_x] at c0
      rw [spotAt_y, ← Nat.add_assoc] at c1
      have hj0 : (0 : Int) ≤ (j : Int) := Int.natCast_nonneg _
      have hj1 : (j : Int) < (l.length : Int) := by omega
      have hno := elTo_no l j hlt
      have hsu := elTo_succ l j
      rw [hall] at hsu
      have he : elB l j = (inB (l.getD j (0, 0)).1 (-4) 4 && inB (l.getD j (0, 0)).2 (-4) 4 && (decide (j = 0) || befB (l.getD (j - 1) (0, 0)) (l.getD j (0, 0)))) := rfl
      obtain ⟨⟨x, y⟩, es⟩ : ∃ s, l.getD j (0, 0) = s := ⟨_, rfl⟩
      rw [es] at c0 c1 he
      dsimp only at c0 c1 he
      have hy := bl_alloc wr (.cells #[.int .i64 x, .int .i64 y] 45)
      have C1 := (Blk.new wr #[.int .i64 x, .int .i64 y] 45).cat 0 rfl
      have C2 := (Blk.new wr #[.int .i64 x, .int .i64 y] 45).cat 1 rfl
      have C3 := hA1.bl hy
      have S1 := S.bl hy
      have Es := Lib.hid es; clear es
      have Hall := Lib.hid hall; clear hall
      have cx := fun w => l00In_any x (-4) 4 w
      have cy := fun w => l00In_any y (-4) 4 w
      have qx := fun w => (l00In_any x (-4) 4 w).mono fun e w' q => (⟨q.1, q.2.symm⟩ : e = .returned (.bool (inB x (-4) 4)) ∧ w' = w)
      have qy := fun w => (l00In_any y (-4) 4 w).mono fun e w' q => (⟨q.1, q.2.symm⟩ : e = .returned (.bool (inB y (-4) 4)) ∧ w' = w)
      cases e1 : inB x (-4) 4
      · rw [e1] at he qx
        have hv := hno (by rw [he]; rfl)
        have r0 := C1.out
        have Hv := Lib.hid hv; clear hv
        have He := Lib.hid he; clear he
        have Qx := Lib.hid qx; clear qx
        have E1 := Lib.hid e1; clear e1
        clear hno hsu hc cy cx qy
        go_upto_region 6 with (fail)
        go_quiet ((go_at_call 51; with_reducible exact Calls.quiet_of_same (Qx.out _)))
        have S2 := S1.bl (bl_drewN _ nq)
        go_wp2
        go_ret
        exact ⟨by rw [Hv.out]; try rfl, S2.below⟩
      · rw [e1] at he cx qx
        cases e2 : inB y (-4) 4
        · rw [e2] at he qy
          have hv := hno (by rw [he]; rfl)
          have r0 := C1.out
          have r1 := C2.out
          have Hv := Lib.hid hv; clear hv
          have He := Lib.hid he; clear he
          have Qx := Lib.hid qx; clear qx
          have Qy := Lib.hid qy; clear qy
          have E1 := Lib.hid e1; clear e1
          have E2 := Lib.hid e2; clear e2
          clear hno hsu hc cx cy
          go_upto_region 6 with (fail)
          go_quiet ((first | (go_at_call 51; with_reducible exact Calls.quiet_of_same (Qx.out _)) | (go_at_call 51; with_reducible exact Calls.quiet_of_same (Qy.out _))))
          have S2 := S1.bl (bl_drewN _ nq)
          go_wp2
          go_ret
          exact ⟨by rw [Hv.out]; try rfl, S2.below⟩
        · rw [e2] at he cy qy
          by_cases hz : j = 0
          · subst hz
            simp only [Nat.zero_mul, Nat.add_zero] at c0 c1
            have hs2 : elTo l (0 + 1) = true := by rw [hsu, he]; rfl
            have r0 := C1.out
            have r1 := C2.out
            have Hs2 := Lib.hid hs2; clear hs2
            have He := Lib.hid he; clear he
            have Qx := Lib.hid qx; clear qx
            have Qy := Lib.hid qy; clear qy
            have E1 := Lib.hid e1; clear e1
            have E2 := Lib.hid e2; clear e2
            clear hno hsu hc cx cy
            go_upto_region 6 with (fail)
            go_quiet ((first | (go_at_call 51; with_reducible exact Calls.quiet_of_same (Qx.out _)) | (go_at_call 51; with_reducible exact Calls.quiet_of_same (Qy.out _))))
            have S2 := S1.bl (bl_drewN _ nq)
            go_wp2
            go_roundw
            case rel => exact ⟨0 + 1, by omega, by go_num, Hs2.out, S2⟩
            case measure => simp [intOf]; omega
          · obtain ⟨i, rfl⟩ : ∃ i, j = i + 1 := ⟨j - 1, by omega⟩
            have p0 := hc (i * 2) (by omega)
            have p1 := hc (i * 2 + 1) (by omega)
            rw [spotAt_x] at p0
            rw [spotAt_y, ← Nat.add_assoc] at p1
            rw [show i + 1 - 1 = i by omega] at he
            obtain ⟨⟨u, v⟩, eu⟩ : ∃ s, l.getD i (0, 0) = s := ⟨_, rfl⟩
            rw [eu] at p0 p1 he
            dsimp only at p0 p1
            have C4 := (show CellAt wr b (o + i * 2) (.int .i64 u) from p0).bl hy
            have C5 := (show CellAt wr b (o + i * 2 + 1) (.int .i64 v) from p1).bl hy
            have hd1 : decide (i + 1 = 0) = false := by simp
            rw [hd1] at he
            have hi0 : (0 : Int) ≤ (i : Int) := Int.natCast_nonneg _
            have hi1 : (i : Int) < (l.length : Int) := by omega
            have hip : (0 : Int) < (i : Int) + 1 := by omega
            have hiw : IntKind.i64.wrap ((i : Int) + 1 - 1) = (i : Int) := by rw [show (i : Int) + 1 - 1 = (i : Int) by omega]; exact IntWalk.i64_in _ (by omega)
            have hiw2 : IntKind.i64.wrap (i : Int) = (i : Int) := IntWalk.i64_in _ (by omega)
            have hiw3 : IntKind.i64.wrap (((i + 1 : Nat) : Int) - 1) = (i : Int) := by rw [show ((i + 1 : Nat) : Int) - 1 = (i : Int) by omega]; exact hiw2
            have hiw4 : (((i + 1 : Nat) : Int) - 1) = (i : Int) := by omega
            have hd0 : decide ((0 : Int) < (i : Int) + 1) = true := decide_eq_true hip
            have cb := fun w => l03Before_any u v x y w
            clear hd1 p0 p1 hc qx qy
            cases e3 : befB (u, v) (x, y)
            · rw [e3] at he cb
              have hv := hno (by rw [he]; rfl)
              have Hv := Lib.hid hv; clear hv
              have He := Lib.hid he; clear he
              have Cx := Lib.hid cx; clear cx
              have Cy := Lib.hid cy; clear cy
              have Cb := Lib.hid cb; clear cb
              have E1 := Lib.hid e1; clear e1
              have E2 := Lib.hid e2; clear e2
              have E3 := Lib.hid e3; clear e3
              have Eu := Lib.hid eu; clear eu
              clear hno hsu
              go_upto_region 6 with (fail)
              go_region_held3 (fun w' => w'.cell? ⟨wr.heap.size, 0, none⟩ = some (.int .i64 x) ∧ w'.cell? ⟨wr.heap.size, 1, none⟩ = some (.int .i64 y) ∧ w'.cell? ⟨a, 0, none⟩ = some (.slice (some ⟨b, o, none⟩) l.length c) ∧ w'.cell? ⟨b, o + i * 2, none⟩ = some (.int .i64 u) ∧ w'.cell? ⟨b, o + i * 2 + 1, none⟩ = some (.int .i64 v))
                (first | ((repeat' (apply And.intro)) <;> (refine CellAt.out ?_; (repeat (first | assumption | exact Blk.cat (Blk.new _ _ _) _ rfl | refine CellAt.bl ?_ (bl_alloc _ _) | refine CellAt.bl ?_ (bl_drew _) | refine CellAt.bl ?_ (bl_drewN _ _) | refine CellAt.bl ?_ (by assumption) | refine CellAt.other ?_ (by intro e; injection e; omega) _)))))
                ((first | (go_at_call 35; refine (Cb.out _).mono ?_; rintro e w1 ⟨rfl, hb1⟩) | (go_at_call 51; (with_reducible refine (Cx.out _).mono ?_); rintro e w1 ⟨rfl, rfl⟩) | (go_at_call 51; refine (Cy.out _).mono ?_; rintro e w1 ⟨rfl, rfl⟩)))
              have S2 : Since w w1 := by (repeat (first | assumption | exact Blk.new _ _ _ | exact Since.refl _ | refine ArgRd.bl ?_ (bl_alloc _ _) | refine ArgRd.bl ?_ (bl_drew _) | refine ArgRd.bl ?_ (by assumption) | refine Copy.bl ?_ (bl_alloc _ _) | refine Copy.bl ?_ (bl_drew _) | refine Copy.bl ?_ (by assumption) | refine OwnStrs.bl ?_ (bl_alloc _ _) | refine OwnStrs.bl ?_ (bl_drew _) | refine OwnStrs.bl ?_ (by assumption) | refine Blk.bl ?_ (bl_alloc _ _) | refine Blk.bl ?_ (bl_drew _) | refine Blk.bl ?_ (by assumption) | refine Since.bl ?_ (bl_alloc _ _) | refine Since.bl ?_ (bl_drew _) | refine Since.bl ?_ (by assumption) | refine Blk.other ?_ (by (try dsimp only); (try simp only [World.size_alloc, World.size_setCell, szDrew]); omega) _))
              go_wp2
              go_ret
              exact ⟨by rw [Hv.out]; try rfl, S2.below⟩
            · rw [e3] at he cb
              have hs2 : elTo l (i + 1 + 1) = true := by rw [hsu, he]; rfl
              have Hs2 := Lib.hid hs2; clear hs2
              have He := Lib.hid he; clear he
              have Cx := Lib.hid cx; clear cx
              have Cy := Lib.hid cy; clear cy
              have Cb := Lib.hid cb; clear cb
              have E1 := Lib.hid e1; clear e1
              have E2 := Lib.hid e2; clear e2
              have E3 := Lib.hid e3; clear e3
              have Eu := Lib.hid eu; clear eu
              clear hno hsu
              go_upto_region 6 with (fail)
              go_region_held3 (fun w' => w'.cell? ⟨wr.heap.size, 0, none⟩ = some (.int .i64 x) ∧ w'.cell? ⟨wr.heap.size, 1, none⟩ = some (.int .i64 y) ∧ w'.cell? ⟨a, 0, none⟩ = some (.slice (some ⟨b, o, none⟩) l.length c) ∧ w'.cell? ⟨b, o + i * 2, none⟩ = some (.int .i64 u) ∧ w'.cell? ⟨b, o + i * 2 + 1, none⟩ = some (.int .i64 v))
                (first | ((repeat' (apply And.intro)) <;> (refine CellAt.out ?_; (repeat (first | assumption | exact Blk.cat (Blk.new _ _ _) _ rfl | refine CellAt.bl ?_ (bl_alloc _ _) | refine CellAt.bl ?_ (bl_drew _) | refine CellAt.bl ?_ (bl_drewN _ _) | refine CellAt.bl ?_ (by assumption) | refine CellAt.other ?_ (by intro e; injection e; omega) _)))))
                ((first | (go_at_call 35; refine (Cb.out _).mono ?_; rintro e w1 ⟨rfl, hb1⟩) | (go_at_call 51; (with_reducible refine (Cx.out _).mono ?_); rintro e w1 ⟨rfl, rfl⟩) | (go_at_call 51; refine (Cy.out _).mono ?_; rintro e w1 ⟨rfl, rfl⟩)))
              have S2 : Since w w1 := by (repeat (first | assumption | exact Blk.new _ _ _ | exact Since.refl _ | refine ArgRd.bl ?_ (bl_alloc _ _) | refine ArgRd.bl ?_ (bl_drew _) | refine ArgRd.bl ?_ (by assumption) | refine Copy.bl ?_ (bl_alloc _ _) | refine Copy.bl ?_ (bl_drew _) | refine Copy.bl ?_ (by assumption) | refine OwnStrs.bl ?_ (bl_alloc _ _) | refine OwnStrs.bl ?_ (bl_drew _) | refine OwnStrs.bl ?_ (by assumption) | refine Blk.bl ?_ (bl_alloc _ _) | refine Blk.bl ?_ (bl_drew _) | refine Blk.bl ?_ (by assumption) | refine Since.bl ?_ (bl_alloc _ _) | refine Since.bl ?_ (bl_drew _) | refine Since.bl ?_ (by assumption) | refine Blk.other ?_ (by (try dsimp only); (try simp only [World.size_alloc, World.size_setCell, szDrew]); omega) _))
              go_wp2
              go_roundw
              case rel => exact ⟨i + 1 + 1, by omega, by go_num, Hs2.out, S2⟩
              case measure => simp [intOf]; omega
    · obtain rfl : j = l.length := by omega
      have hv := elTo_yes l hall
      have Hv := Lib.hid hv; clear hv
      have Hall := Lib.hid hall; clear hall
      by_cases h1 : 1 ≤ l.length
      · go_wp2
        go_ret
        exact ⟨ret_bool (by rw [Hv.out, Bool.eq_iff_iff]; simp only [inB, Bool.and_eq_true, decide_eq_true_eq]; omega), S.below⟩
      · go_wp2
        go_ret
        exact ⟨ret_bool (by rw [Hv.out, Bool.eq_iff_iff]; simp only [inB, Bool.and_eq_true, decide_eq_true_eq]; (try simp); omega), S.below⟩
set_option maxHeartbeats 1000000 in
theorem sValidElement_any (p : Option Addr) (c : Nat) (l : List (Int × Int)) (w : World) (hn : l.length ≤ 1048576) (hr : Rd w p (l.length * 2) (spotAt l)) :
    Calls Try.prog 17 #[.agg #[.slice p l.length c]] w fun e w' => e = .returned (.bool (okEl l)) ∧ Below w.heap.size w w' := by
  have hA := (Blk.new w #[.slice p l.length c] 28).cat 0 rfl
  have c0 := l03Is_any w.heap.size p c l _ hn hA (hr.alloc _)
  have C0 := Lib.hid c0; clear c0
  clear hA
  go_enter Try.func17, Try.ntmps17
  go_wp2_with fail
  refine C0.out.mono ?_
  rintro e w1 ⟨rfl, hb⟩
  have hb1 := below_a1 hb
  go_wp2
  go_ret
  exact ⟨rfl, hb1⟩
set_option maxRecDepth 100000 in
set_option maxHeartbeats 4000000 in
theorem validElement_any (p : Option Addr) (c : Nat) (l : List (Int × Int)) (w : World) (hn : l.length ≤ 1048576) (hr : Rd w p (l.length * 2) (spotAt l)) :
    Calls Try.prog 18 #[.agg #[.slice p l.length c]] w fun e w' => e = .returned (.bool (okEl l)) ∧ Below w.heap.size w w' := by
  have hA := (Blk.new w #[.slice p l.length c] 28).cat 0 rfl
  have S0 := (Since.refl w).alloc (.cells #[.slice p l.length c] 28)
  have hr0 := hr.alloc (.cells #[.slice p l.length c] 28)
  have a0 := hA.out
  go_enter Try.func18, Try.ntmps18
  go_wp2
  go_loopw [8] (fun i wr => ∃ j : Nat, j ≤ l.length ∧ i = .int .i64 j ∧ elTo l j = true ∧ Since w wr ∧ CellAt wr w.heap.size 0 (.slice p l.length c)) (fun i _ => l.length - (intOf i).toNat)
  case atStart => exact ⟨0, Nat.zero_le _, rfl, rfl, S0, hA⟩
  case round =>
    clear a0 hA S0 hr0
    obtain ⟨j, hj, rfl, hall, S, hA1⟩ := hrel
    have a0 := hA1.out
    by_cases hlt : j < l.length
    · obtain ⟨b, o, rfl, hb, hc⟩ := (hr.below S.below (Nat.le_refl _)).at (k := j * 2) (by omega)
      have c0 := hc (j * 2) (by omega)
      have c1 := hc (j * 2 + 1) (by omega)
      rw [spotAt_x] at c0
      rw [spotAt_y, ← Nat.add_assoc] at c1
      have hj0 : (0 : Int) ≤ (j : Int) := Int.natCast_nonneg _
      have hj1 : (j : Int) < (l.length : Int) := by omega
      have hno := elTo_no l j hlt
      have hsu := elTo_succ l j
      rw [hall] at hsu
      have he : elB l j = (inB (l.getD j (0, 0)).1 (-4) 4 && inB (l.getD j (0, 0)).2 (-4) 4 && (decide (j = 0) || befB (l.getD (j - 1) (0, 0)) (l.getD j (0, 0)))) := rfl
      obtain ⟨⟨x, y⟩, es⟩ : ∃ s, l.getD j (0, 0) = s := ⟨_, rfl⟩
      rw [es] at c0 c1 he
      dsimp only at c0 c1 he
      have hy := bl_alloc wr (.cells #[.int .i64 x, .int .i64 y] 45)
      have C1 := (Blk.new wr #[.int .i64 x, .int .i64 y] 45).cat 0 rfl
      have C2 := (Blk.new wr #[.int .i64 x, .int .i64 y] 45).cat 1 rfl
      have C3 := hA1.bl hy
      have S1 := S.bl hy
      have Es := Lib.hid es; clear es
      have Hall := Lib.hid hall; clear hall
      have cx := fun w => in_any x (-4) 4 w
      have cy := fun w => in_any y (-4) 4 w
      have qx := fun w => (in_any x (-4) 4 w).mono fun e w' q => (⟨q.1, q.2.symm⟩ : e = .returned (.bool (inB x (-4) 4)) ∧ w' = w)
      have qy := fun w => (in_any y (-4) 4 w).mono fun e w' q => (⟨q.1, q.2.symm⟩ : e = .returned (.bool (inB y (-4) 4)) ∧ w' = w)
      cases e1 : inB x (-4) 4
      · rw [e1] at he qx
        have hv := hno (by rw [he]; rfl)
        have r0 := C1.out
        have Hv := Lib.hid hv; clear hv
        have He := Lib.hid he; clear he
        have Qx := Lib.hid qx; clear qx
        have E1 := Lib.hid e1; clear e1
        clear hno hsu hc cy cx qy
        go_upto_region 4 with (fail)
        go_quiet ((go_at_call 48; with_reducible exact Calls.quiet_of_same (Qx.out _)))
        have S2 := S1.bl (bl_drewN _ nq)
        go_wp2
        go_ret
        exact ⟨by rw [Hv.out]; try rfl, S2.below⟩
      · rw [e1] at he cx qx
        cases e2 : inB y (-4) 4
        · rw [e2] at he qy
          have hv := hno (by rw [he]; rfl)
          have r0 := C1.out
          have r1 := C2.out
          have Hv := Lib.hid hv; clear hv
          have He := Lib.hid he; clear he
          have Qx := Lib.hid qx; clear qx
          have Qy := Lib.hid qy; clear qy
          have E1 := Lib.hid e1; clear e1
          have E2 := Lib.hid e2; clear e2
          clear hno hsu hc cx cy
          go_upto_region 4 with (fail)
          go_quiet ((first | (go_at_call 48; with_reducible exact Calls.quiet_of_same (Qx.out _)) | (go_at_call 48; with_reducible exact Calls.quiet_of_same (Qy.out _))))
          have S2 := S1.bl (bl_drewN _ nq)
          go_wp2
          go_ret
          exact ⟨by rw [Hv.out]; try rfl, S2.below⟩
        · rw [e2] at he cy qy
          by_cases hz : j = 0
          · subst hz
            simp only [Nat.zero_mul, Nat.add_zero] at c0 c1
            have hs2 : elTo l (0 + 1) = true := by rw [hsu, he]; rfl
            have r0 := C1.out
            have r1 := C2.out
            have Hs2 := Lib.hid hs2; clear hs2
            have He := Lib.hid he; clear he
            have Qx := Lib.hid qx; clear qx
            have Qy := Lib.hid qy; clear qy
            have E1 := Lib.hid e1; clear e1
            have E2 := Lib.hid e2; clear e2
            clear hno hsu hc cx cy
            go_upto_region 4 with (fail)
            go_quiet ((first | (go_at_call 48; with_reducible exact Calls.quiet_of_same (Qx.out _)) | (go_at_call 48; with_reducible exact Calls.quiet_of_same (Qy.out _))))
            have S2 := S1.bl (bl_drewN _ nq)
            go_wp2
            go_roundw
            case rel => exact ⟨0 + 1, by omega, by go_num, Hs2.out, S2, C3.bl (bl_drewN _ nq)⟩
            case measure => simp [intOf]; omega
          · obtain ⟨i, rfl⟩ : ∃ i, j = i + 1 := ⟨j - 1, by omega⟩
            have p0 := hc (i * 2) (by omega)
            have p1 := hc (i * 2 + 1) (by omega)
            rw [spotAt_x] at p0
            rw [spotAt_y, ← Nat.add_assoc] at p1
            rw [show i + 1 - 1 = i by omega] at he
            obtain ⟨⟨u, v⟩, eu⟩ : ∃ s, l.getD i (0, 0) = s := ⟨_, rfl⟩
            rw [eu] at p0 p1 he
            dsimp only at p0 p1
            have C4 := (show CellAt wr b (o + i * 2) (.int .i64 u) from p0).bl hy
            have C5 := (show CellAt wr b (o + i * 2 + 1) (.int .i64 v) from p1).bl hy
            have hd1 : decide (i + 1 = 0) = false := by simp
            rw [hd1] at he
            have hi0 : (0 : Int) ≤ (i : Int) := Int.natCast_nonneg _
            have hi1 : (i : Int) < (l.length : Int) := by omega
            have hip : (0 : Int) < (i : Int) + 1 := by omega
            have hiw : IntKind.i64.wrap ((i : Int) + 1 - 1) = (i : Int) := by rw [show (i : Int) + 1 - 1 = (i : Int) by omega]; exact IntWalk.i64_in _ (by omega)
            have hiw2 : IntKind.i64.wrap (i : Int) = (i : Int) := IntWalk.i64_in _ (by omega)
            have hiw3 : IntKind.i64.wrap (((i + 1 : Nat) : Int) - 1) = (i : Int) := by rw [show ((i + 1 : Nat) : Int) - 1 = (i : Int) by omega]; exact hiw2
            have hiw4 : (((i + 1 : Nat) : Int) - 1) = (i : Int) := by omega
            have hd0 : decide ((0 : Int) < (i : Int) + 1) = true := decide_eq_true hip
            have cb := fun w => spotOrder_any u v x y w
            have hzz := ordZ_bef (u, v) (x, y)
            clear hd1 p0 p1 hc qx qy
            cases e3 : befB (u, v) (x, y)
            · rw [e3] at he hzz
              have hv := hno (by rw [he]; rfl)
              generalize ordZ (u, v) (x, y) = Z at *
              have hz0 : 0 ≤ Z := by simpa using hzz
              have Hv := Lib.hid hv; clear hv
              have He := Lib.hid he; clear he
              have Cx := Lib.hid cx; clear cx
              have Cy := Lib.hid cy; clear cy
              have Cb := Lib.hid cb; clear cb
              have E1 := Lib.hid e1; clear e1
              have E2 := Lib.hid e2; clear e2
              have E3 := Lib.hid e3; clear e3
              have Eu := Lib.hid eu; clear eu
              clear hzz
              clear hno hsu
              go_upto_region 4 with (fail)
              go_region_held3 (fun w' => w'.cell? ⟨wr.heap.size, 0, none⟩ = some (.int .i64 x) ∧ w'.cell? ⟨wr.heap.size, 1, none⟩ = some (.int .i64 y) ∧ w'.cell? ⟨w.heap.size, 0, none⟩ = some (.slice (some ⟨b, o, none⟩) l.length c) ∧ w'.cell? ⟨b, o + i * 2, none⟩ = some (.int .i64 u) ∧ w'.cell? ⟨b, o + i * 2 + 1, none⟩ = some (.int .i64 v))
                (first | ((repeat' (apply And.intro)) <;> (refine CellAt.out ?_; (repeat (first | assumption | exact Blk.cat (Blk.new _ _ _) _ rfl | refine CellAt.bl ?_ (bl_alloc _ _) | refine CellAt.bl ?_ (bl_drew _) | refine CellAt.bl ?_ (bl_drewN _ _) | refine CellAt.bl ?_ (by assumption) | refine CellAt.other ?_ (by intro e; injection e; omega) _)))))
                ((first | (go_at_call 40; refine (Cb.out _).mono ?_; rintro e w1 ⟨rfl, hb1⟩) | (go_at_call 48; (with_reducible refine (Cx.out _).mono ?_); rintro e w1 ⟨rfl, rfl⟩) | (go_at_call 48; refine (Cy.out _).mono ?_; rintro e w1 ⟨rfl, rfl⟩)))
              have S2 : Since w w1 := by (repeat (first | assumption | exact Blk.new _ _ _ | exact Since.refl _ | refine ArgRd.bl ?_ (bl_alloc _ _) | refine ArgRd.bl ?_ (bl_drew _) | refine ArgRd.bl ?_ (by assumption) | refine Copy.bl ?_ (bl_alloc _ _) | refine Copy.bl ?_ (bl_drew _) | refine Copy.bl ?_ (by assumption) | refine OwnStrs.bl ?_ (bl_alloc _ _) | refine OwnStrs.bl ?_ (bl_drew _) | refine OwnStrs.bl ?_ (by assumption) | refine Blk.bl ?_ (bl_alloc _ _) | refine Blk.bl ?_ (bl_drew _) | refine Blk.bl ?_ (by assumption) | refine Since.bl ?_ (bl_alloc _ _) | refine Since.bl ?_ (bl_drew _) | refine Since.bl ?_ (by assumption) | refine Blk.other ?_ (by (try dsimp only); (try simp only [World.size_alloc, World.size_setCell, szDrew]); omega) _))
              go_wp2
              go_ret
              exact ⟨by rw [Hv.out]; try rfl, S2.below⟩
            · rw [e3] at he hzz
              have hs2 : elTo l (i + 1 + 1) = true := by rw [hsu, he]; rfl
              generalize ordZ (u, v) (x, y) = Z at *
              have hz0 : Z < 0 := by simpa using hzz
              have Hs2 := Lib.hid hs2; clear hs2
              have He := Lib.hid he; clear he
              have Cx := Lib.hid cx; clear cx
              have Cy := Lib.hid cy; clear cy
              have Cb := Lib.hid cb; clear cb
              have E1 := Lib.hid e1; clear e1
              have E2 := Lib.hid e2; clear e2
              have E3 := Lib.hid e3; clear e3
              have Eu := Lib.hid eu; clear eu
              clear hzz
              clear hno hsu
              go_upto_region 4 with (fail)
              go_region_held3 (fun w' => w'.cell? ⟨wr.heap.size, 0, none⟩ = some (.int .i64 x) ∧ w'.cell? ⟨wr.heap.size, 1, none⟩ = some (.int .i64 y) ∧ w'.cell? ⟨w.heap.size, 0, none⟩ = some (.slice (some ⟨b, o, none⟩) l.length c) ∧ w'.cell? ⟨b, o + i * 2, none⟩ = some (.int .i64 u) ∧ w'.cell? ⟨b, o + i * 2 + 1, none⟩ = some (.int .i64 v))
                (first | ((repeat' (apply And.intro)) <;> (refine CellAt.out ?_; (repeat (first | assumption | exact Blk.cat (Blk.new _ _ _) _ rfl | refine CellAt.bl ?_ (bl_alloc _ _) | refine CellAt.bl ?_ (bl_drew _) | refine CellAt.bl ?_ (bl_drewN _ _) | refine CellAt.bl ?_ (by assumption) | refine CellAt.other ?_ (by intro e; injection e; omega) _)))))
                ((first | (go_at_call 40; refine (Cb.out _).mono ?_; rintro e w1 ⟨rfl, hb1⟩) | (go_at_call 48; (with_reducible refine (Cx.out _).mono ?_); rintro e w1 ⟨rfl, rfl⟩) | (go_at_call 48; refine (Cy.out _).mono ?_; rintro e w1 ⟨rfl, rfl⟩)))
              have S2 : Since w w1 := by (repeat (first | assumption | exact Blk.new _ _ _ | exact Since.refl _ | refine ArgRd.bl ?_ (bl_alloc _ _) | refine ArgRd.bl ?_ (bl_drew _) | refine ArgRd.bl ?_ (by assumption) | refine Copy.bl ?_ (bl_alloc _ _) | refine Copy.bl ?_ (bl_drew _) | refine Copy.bl ?_ (by assumption) | refine OwnStrs.bl ?_ (bl_alloc _ _) | refine OwnStrs.bl ?_ (bl_drew _) | refine OwnStrs.bl ?_ (by assumption) | refine Blk.bl ?_ (bl_alloc _ _) | refine Blk.bl ?_ (bl_drew _) | refine Blk.bl ?_ (by assumption) | refine Since.bl ?_ (bl_alloc _ _) | refine Since.bl ?_ (bl_drew _) | refine Since.bl ?_ (by assumption) | refine Blk.other ?_ (by (try dsimp only); (try simp only [World.size_alloc, World.size_setCell, szDrew]); omega) _))
              have C6 : CellAt w1 w.heap.size 0 (.slice (some ⟨b, o, none⟩) l.length c) := by (repeat (first | assumption | exact Blk.cat (Blk.new _ _ _) _ rfl | refine CellAt.bl ?_ (bl_alloc _ _) | refine CellAt.bl ?_ (bl_drew _) | refine CellAt.bl ?_ (bl_drewN _ _) | refine CellAt.bl ?_ (by assumption) | refine CellAt.other ?_ (by intro e; injection e; omega) _))
              go_wp2
              go_roundw
              case rel => exact ⟨i + 1 + 1, by omega, by go_num, Hs2.out, S2, C6⟩
              case measure => simp [intOf]; omega
    · obtain rfl : j = l.length := by omega
      have hv := elTo_yes l hall
      have Hv := Lib.hid hv; clear hv
      have Hall := Lib.hid hall; clear hall
      go_wp2_with (go_at_call 48; refine (in_any _ _ _ _).mono ?_; rintro e w1 ⟨rfl, rfl⟩)
      go_ret
      exact ⟨ret_bool Hv.out.symm, S.below⟩
end Go.Proofs.Ytheakjbbfdcbaaa
