/- Contracts of the small functions of BorderFrom. -/
import Derived.Test.YtjplikkehhpomaaBdC
import Derived.Test.YtjplikkehhpomaaSpEq
import Derived.Test.YtjplikkehhpomaaShelfRep
set_option linter.unusedVariables false
set_option linter.unusedSimpArgs false
namespace Go.Proofs.Ytjplikkehhpomaa
open Go.RowKit

set_option maxHeartbeats 2000000 in
theorem size_any (x : Int) (w : World) (h : -100 ≤ x ∧ x ≤ 100) : Calls Try.prog 69 #[.int .i64 x] w fun e w' => e = .returned (.int .i64 (x.natAbs : Int)) ∧ w' = w := by
  obtain ⟨h1, h2⟩ := h
  have hw : IntKind.i64.wrap (-x) = -x := IntWalk.i64_in _ (by omega)
  by_cases h0 : x ≤ 0
  · have e : ((x.natAbs : Nat) : Int) = -x := by omega
    rw [e]
    clear e
    by_cases h3 : x = 0
    · subst h3
      go_enter Try.func69, Try.ntmps69
      go_wp2
      go_ret
      exact ⟨by simp, rfl⟩
    · have h4 : x < -x := by omega
      go_enter Try.func69, Try.ntmps69
      go_wp2
      go_ret
      exact ⟨by simp; omega, rfl⟩
  · have e : ((x.natAbs : Nat) : Int) = x := by omega
    rw [e]
    clear e
    have h4 : -x < x := by omega
    go_enter Try.func69, Try.ntmps69
    go_wp2
    go_ret
    exact ⟨by simp; omega, rfl⟩
set_option maxHeartbeats 2000000 in
theorem cornerOk_any (x y : Int) (w : World) : Calls Try.prog 56 #[.agg #[.int .i64 x, .int .i64 y]] w fun e w' => e = .returned (.bool (cornB (x, y))) ∧ Below w.heap.size w w' := by
  have B := Blk.new w #[.int .i64 x, .int .i64 y] 28
  have S := (Since.refl w).alloc (.cells #[.int .i64 x, .int .i64 y] 28)
  have b0 := B.cell 0 rfl
  have b1 := B.cell 1 rfl
  have cx := fun w => in_any x 0 16 w
  have cy := fun w => in_any y 0 16 w
  have hv : cornB (x, y) = (inB x 0 16 && inB y 0 16) := rfl
  cases hx : inB x 0 16
  · rw [hx] at hv
    simp only [hx] at cx
    have Cx := Lib.hid cx; clear cx
    have Cy := Lib.hid cy; clear cy
    have Hv := Lib.hid hv; clear hv
    have Hx := Lib.hid hx; clear hx
    go_enter Try.func56, Try.ntmps56
    go_wp2_with fail
    refine (Cx.out _).mono ?_
    rintro e w1 ⟨rfl, rfl⟩
    go_wp2
    go_ret
    exact ⟨by rw [Hv.out]; rfl, S.below⟩
  · rw [hx] at hv
    simp only [hx] at cx
    obtain ⟨vy, evy⟩ : ∃ v, inB y 0 16 = v := ⟨_, rfl⟩
    simp only [evy] at cy
    rw [evy] at hv
    have Cx := Lib.hid cx; clear cx
    have Cy := Lib.hid cy; clear cy
    have Hv := Lib.hid hv; clear hv
    have Hx := Lib.hid hx; clear hx
    have Evy := Lib.hid evy; clear evy
    go_enter Try.func56, Try.ntmps56
    go_wp2_with fail
    refine (Cx.out _).mono ?_
    rintro e w1 ⟨rfl, rfl⟩
    go_wp2_with fail
    refine (Cy.out _).mono ?_
    rintro e w1 ⟨rfl, rfl⟩
    go_wp2
    go_ret
    exact ⟨by rw [Hv.out]; rfl, S.below⟩
/-- Is there a straight way from one spot to another one? -/
def stepB (a b : Int × Int) : Bool := decide (a ≠ b) && (decide (a.1 = b.1) || decide (a.2 = b.2))
/-- How far it goes, and by which letter. -/
def stepN (a b : Int × Int) : Nat := max (a.1 - b.1).natAbs (a.2 - b.2).natAbs
def stepC (a b : Int × Int) : UInt8 := if b.1 < a.1 then 108 else if a.2 < b.2 then 100 else if b.2 < a.2 then 117 else 114
def stepS (a b : Int × Int) : ByteArray := if stepB a b then ⟨(Lib.repeatL [stepC a b] (stepN a b)).toArray⟩ else ⟨#[]⟩
set_option maxRecDepth 100000 in
set_option maxHeartbeats 8000000 in
theorem stepsTo_any (ax ay bx bz : Int) (w : World) (ha : (0 ≤ ax ∧ ax ≤ 16) ∧ 0 ≤ ay ∧ ay ≤ 16) (hb : (0 ≤ bx ∧ bx ≤ 16) ∧ 0 ≤ bz ∧ bz ≤ 16) :
    Calls Try.prog 57 #[.agg #[.int .i64 ax, .int .i64 ay], .agg #[.int .i64 bx, .int .i64 bz]] w fun e w' => e = .returned (.tuple #[.string (stepS (ax, ay) (bx, bz)), .bool (stepB (ax, ay) (bx, bz))]) ∧ Below w.heap.size w w' := by
  obtain ⟨⟨ha1, ha2⟩, ha3, ha4⟩ := ha
  obtain ⟨⟨hb1, hb2⟩, hb3, hb4⟩ := hb
  have S := ((Since.refl w).alloc (.cells #[.int .i64 ax, .int .i64 ay] 28)).alloc (.cells #[.int .i64 bx, .int .i64 bz] 28)
  have A := (Blk.new w #[.int .i64 ax, .int .i64 ay] 28).alloc (.cells #[.int .i64 bx, .int .i64 bz] 28)
  have B := Blk.new (w.alloc (.cells #[.int .i64 ax, .int .i64 ay] 28)) #[.int .i64 bx, .int .i64 bz] 28
  simp only [World.size_alloc] at B
  have y0 := bl_drew ((w.alloc (.cells #[.int .i64 ax, .int .i64 ay] 28)).alloc (.cells #[.int .i64 bx, .int .i64 bz] 28))
  have S2 := S.bl y0
  have A2 := A.bl y0
  have B2 := B.bl y0
  have a0 := A2.cell 0 rfl
  have a1 := A2.cell 1 rfl
  have b0 := B2.cell 0 rfl
  have b1 := B2.cell 1 rfl
  have ca0 := A2.cat 0 rfl
  have ca1 := A2.cat 1 rfl
  have cb0 := B2.cat 0 rfl
  have cb1 := B2.cat 1 rfl
  have hw1 : IntKind.i64.wrap (ax - bx) = ax - bx := IntWalk.i64_in _ (by omega)
  have hw2 : IntKind.i64.wrap (ay - bz) = ay - bz := IntWalk.i64_in _ (by omega)
  have c1 := fun w => size_any (ax - bx) w (by omega)
  have c2 := fun w => size_any (ay - bz) w (by omega)
  obtain ⟨m1, em1⟩ : ∃ m, (ax - bx).natAbs = m := ⟨_, rfl⟩
  obtain ⟨m2, em2⟩ : ∃ m, (ay - bz).natAbs = m := ⟨_, rfl⟩
  have hN : stepN (ax, ay) (bx, bz) = max m1 m2 := by rw [stepN, em1, em2]
  simp only [em1] at c1
  simp only [em2] at c2
  have hm1 : m1 ≤ 16 := by omega
  have hm2 : m2 ≤ 16 := by omega
  have C1 := Lib.hid c1; clear c1
  have C2 := Lib.hid c2; clear c2
  have HN := Lib.hid hN; clear hN
  have Em1 := Lib.hid em1; clear em1
  have Em2 := Lib.hid em2; clear em2
  clear y0 S A B
  go_enter Try.func57, Try.ntmps57
  go_upto_region 1 with (fail)
  go_region_held3 (fun w' => w'.cell? ⟨w.heap.size, 0, none⟩ = some (.int .i64 ax) ∧ w'.cell? ⟨w.heap.size, 1, none⟩ = some (.int .i64 ay) ∧ w'.cell? ⟨w.heap.size + 1, 0, none⟩ = some (.int .i64 bx) ∧ w'.cell? ⟨w.heap.size + 1, 1, none⟩ = some (.int .i64 bz))
    (first | ((repeat' (apply And.intro)) <;> (refine CellAt.out ?_; (repeat (first | assumption | exact Blk.cat (Blk.new _ _ _) _ rfl | refine CellAt.bl ?_ (bl_alloc _ _) | refine CellAt.bl ?_ (bl_drew _) | refine CellAt.bl ?_ (bl_drewN _ _) | refine CellAt.bl ?_ (by assumption) | refine CellAt.other ?_ (by intro e; injection e; omega) _)))))
    ((first | (go_at_call 69; (with_reducible refine (C1.out _).mono ?_); rintro e w1 ⟨rfl, rfl⟩) | (go_at_call 69; (with_reducible refine (C2.out _).mono ?_); rintro e w1 ⟨rfl, rfl⟩)))
  obtain ⟨n, en⟩ : ∃ n : Nat, max m1 m2 = n := ⟨_, rfl⟩
  have hn16 : n ≤ 16 := by omega
  have hmx : max (m1 : Int) (m2 : Int) = (n : Int) := by omega
  simp only [hmx]
  have hn0 : (0 : Int) ≤ (n : Int) := by omega
  have hn1 : (n : Int) ≤ 16 := by omega
  have hN2 : stepN (ax, ay) (bx, bz) = n := HN.out.trans en
  have crp := fun (l : UInt8) w => Try.strings_Repeat ⟨#[l]⟩ n w (by omega) (by show 1 * n ≤ _; omega)
  clear hmx en hm1 hm2 hw1 hw2
  have hcs : (ax = bx ∧ ay = bz) ∨ (¬ ax = bx ∧ ¬ ay = bz) ∨ (¬ ax = bx ∧ ay = bz ∧ bx < ax) ∨ (¬ ax = bx ∧ ay = bz ∧ ax < bx) ∨ (ax = bx ∧ ¬ ay = bz ∧ ay < bz) ∨ (ax = bx ∧ ¬ ay = bz ∧ bz < ay) := by omega
  rcases hcs with ⟨rfl, rfl⟩ | ⟨h1, h2⟩ | ⟨h1, rfl, h3⟩ | ⟨h1, rfl, h3⟩ | ⟨rfl, h1, h3⟩ | ⟨rfl, h1, h3⟩
  · have hb : stepB (ax, ay) (ax, ay) = false := by simp [stepB]
    have hs : stepS (ax, ay) (ax, ay) = ⟨#[]⟩ := by rw [stepS, hb]; rfl
    have Hb := Lib.hid hb; clear hb
    have Hs := Lib.hid hs; clear hs
    have HN2 := Lib.hid hN2; clear hN2
    have Crp := Lib.hid crp; clear crp
    go_wp2
    exact bodyPost_ret (v := .tuple #[.string ⟨#[]⟩, .bool false]) (by simp [results, Try.results57, go_sem]) rfl ⟨by rw [Hb.out, Hs.out], S2.below⟩
  · have hb : stepB (ax, ay) (bx, bz) = false := by simp [stepB, h1, h2]
    have hs : stepS (ax, ay) (bx, bz) = ⟨#[]⟩ := by rw [stepS, hb]; rfl
    have Hb := Lib.hid hb; clear hb
    have Hs := Lib.hid hs; clear hs
    have HN2 := Lib.hid hN2; clear hN2
    have Crp := Lib.hid crp; clear crp
    go_wp2
    exact bodyPost_ret (v := .tuple #[.string ⟨#[]⟩, .bool false]) (by simp [results, Try.results57, go_sem]) rfl ⟨by rw [Hb.out, Hs.out], S2.below⟩
  · have hb : stepB (ax, ay) (bx, ay) = true := by simp [stepB, h1]
    have hs : stepS (ax, ay) (bx, ay) = ⟨(Lib.repeatL [108] n).toArray⟩ := by
      rw [stepS, hb, if_pos rfl, hN2, stepC]
      simp [h3]
    have cr := crp 108
    have Hb := Lib.hid hb; clear hb
    have Hs := Lib.hid hs; clear hs
    have HN2 := Lib.hid hN2; clear hN2
    have Cr := Lib.hid cr; clear cr
    clear crp
    go_wp2_with fail
    refine (Cr.out _).mono ?_
    rintro e w1 ⟨rfl, hb1⟩
    have S3 := S2.bl hb1
    go_wp2
    exact bodyPost_ret (v := .tuple #[.string ⟨(Lib.repeatL [108] n).toArray⟩, .bool true]) (by simp [results, Try.results57, go_sem]) rfl ⟨by rw [Hb.out, Hs.out], S3.below⟩
  · have hb : stepB (ax, ay) (bx, ay) = true := by simp [stepB, h1]
    have hs : stepS (ax, ay) (bx, ay) = ⟨(Lib.repeatL [114] n).toArray⟩ := by
      rw [stepS, hb, if_pos rfl, hN2, stepC]
      simp [h3, show ¬ bx < ax by omega]
    have cr := crp 114
    have Hb := Lib.hid hb; clear hb
    have Hs := Lib.hid hs; clear hs
    have HN2 := Lib.hid hN2; clear hN2
    have Cr := Lib.hid cr; clear cr
    clear crp
    have h4 : ¬ bx < ax := by omega
    go_wp2_with fail
    refine (Cr.out _).mono ?_
    rintro e w1 ⟨rfl, hb1⟩
    have S3 := S2.bl hb1
    go_wp2
    exact bodyPost_ret (v := .tuple #[.string ⟨(Lib.repeatL [114] n).toArray⟩, .bool true]) (by simp [results, Try.results57, go_sem]) rfl ⟨by rw [Hb.out, Hs.out], S3.below⟩
  · have hb : stepB (ax, ay) (ax, bz) = true := by simp [stepB, h1]
    have hs : stepS (ax, ay) (ax, bz) = ⟨(Lib.repeatL [100] n).toArray⟩ := by
      rw [stepS, hb, if_pos rfl, hN2, stepC]
      simp [h3]
    have cr := crp 100
    have Hb := Lib.hid hb; clear hb
    have Hs := Lib.hid hs; clear hs
    have HN2 := Lib.hid hN2; clear hN2
    have Cr := Lib.hid cr; clear cr
    clear crp
    go_wp2_with fail
    refine (Cr.out _).mono ?_
    rintro e w1 ⟨rfl, hb1⟩
    have S3 := S2.bl hb1
    go_wp2
    exact bodyPost_ret (v := .tuple #[.string ⟨(Lib.repeatL [100] n).toArray⟩, .bool true]) (by simp [results, Try.results57, go_sem]) rfl ⟨by rw [Hb.out, Hs.out], S3.below⟩
  · have hb : stepB (ax, ay) (ax, bz) = true := by simp [stepB, h1]
    have hs : stepS (ax, ay) (ax, bz) = ⟨(Lib.repeatL [117] n).toArray⟩ := by
      rw [stepS, hb, if_pos rfl, hN2, stepC]
      simp [h3, show ¬ ay < bz by omega]
    have cr := crp 117
    have Hb := Lib.hid hb; clear hb
    have Hs := Lib.hid hs; clear hs
    have HN2 := Lib.hid hN2; clear hN2
    have Cr := Lib.hid cr; clear cr
    clear crp
    have h4 : ¬ ay < bz := by omega
    go_wp2_with fail
    refine (Cr.out _).mono ?_
    rintro e w1 ⟨rfl, hb1⟩
    have S3 := S2.bl hb1
    go_wp2
    exact bodyPost_ret (v := .tuple #[.string ⟨(Lib.repeatL [117] n).toArray⟩, .bool true]) (by simp [results, Try.results57, go_sem]) rfl ⟨by rw [Hb.out, Hs.out], S3.below⟩
end Go.Proofs.Ytjplikkehhpomaa
