/- Contract of the program's readSquare: where no tree lies inside. -/
import Derived.Test.YtnenogpagkepfaaTreeI2
import Derived.Test.YtnenogpagkepfaaLawKit
import Derived.Test.YtnenogpagkepfaaTreeS3
import Derived.StillTailTactics
import Derived.IntWalk
set_option linter.unusedVariables false
set_option linter.unusedSimpArgs false
namespace Go.Proofs.Ytnenogpagkepfaa
open Go.RowKit

def rsZ (t : ByteArray) (k n : Nat) : Int := match rC t k n with
  | none => -1
  | some (_, m) => (m : Int)
def rsL (t : ByteArray) (k n x y : Nat) (p : ByteArray) : List QLeaf := match rC t k n with
  | none => []
  | some (T, _) => T.leaves k x y p
theorem rs_none {t : ByteArray} {k n : Nat} (h : rC t k n = none) (x y : Nat) (p : ByteArray) : rsZ t k n = -1 ∧ rsL t k n x y p = [] := by rw [rsZ, rsL, h]; exact ⟨rfl, rfl⟩
theorem rs_some {t : ByteArray} {k n : Nat} {T : QT} {m : Nat} (h : rC t k n = some (T, m)) (x y : Nat) (p : ByteArray) : rsZ t k n = m ∧ rsL t k n x y p = T.leaves k x y p := by rw [rsZ, rsL, h]; exact ⟨rfl, rfl⟩
/-- What readSquare answers. -/
def SqOut (T : TypeId) (t : ByteArray) (k n x y : Nat) (p : ByteArray) (w : World) (e : Ending) (w' : World) : Prop :=
  Below w.heap.size w w' ∧ ∃ v, e = .returned (.tuple #[v, .int .i64 (rsZ t k n)]) ∧ OwnLeaves true T w.heap.size w' v (rsL t k n x y p)
/- No tree begins here. -/
set_option maxRecDepth 100000 in
set_option maxHeartbeats 2000000 in
theorem readSquare_no (t : ByteArray) (k n x y : Nat) (s : Int) (p : ByteArray) (w : World) (ht : t.size ≤ maxLen) (hs : s = ((2 ^ k : Nat) : Int)) (hn : n ≤ t.size) (h : t.size ≤ n ∨ ∃ h : n < t.size, t[n] ≠ 35 ∧ t[n] ≠ 46 ∧ (t[n] ≠ 40 ∨ k = 0)) :
    Calls Try.prog 94 #[.string t, .int .i64 n, .agg #[.int .i64 x, .int .i64 y, .int .i64 s], .string p] w (SqOut 83 t k n x y p w) := by
  unfold maxLen at ht
  have hp : rC t k n = none := by
    apply rC_none
    rcases h with h | ⟨h, h1, h2, h3⟩
    · exact pAt_none h
    · exact pAt_else h h1 h2 h3
  obtain ⟨r1, r2⟩ := rs_none hp x y p
  have hres : ∀ w', Below w.heap.size w w' → SqOut 83 t k n x y p w (.returned (.tuple #[.slice none 0 0, .int .i64 (-1)])) w' := fun w' hb => ⟨hb, _, by rw [r1], by rw [r2]; exact OwnLeaves.nil _ _⟩
  have S := (Since.refl w).alloc (.cells #[.int .i64 x, .int .i64 y, .int .i64 s] 81)
  have hn0 : (0 : Int) ≤ (n : Int) := Int.natCast_nonneg _
  by_cases hlt : n < t.size
  · have hlt1 : (n : Int) < (t.size : Int) := by omega
    have h2 : t[n] ≠ 35 ∧ t[n] ≠ 46 ∧ (t[n] ≠ 40 ∨ k = 0) := by
      rcases h with h | ⟨_, h⟩
      · omega
      · exact h
    obtain ⟨h35, h46, h40⟩ := h2
    have t1 : ((t[n].toNat : Int) == 35) = false := byte_is_not h35
    have t2 : ((t[n].toNat : Int) == 46) = false := byte_is_not h46
    by_cases hc : t[n] = 40
    · have t3 : ((t[n].toNat : Int) != 40) = false := by rw [hc]; rfl
      obtain rfl : k = 0 := by
        rcases h40 with e | e
        · exact absurd hc e
        · exact e
      have t4 : (s == 1) = true := by rw [hs]; rfl
      clear h hs h40
      have Hp := Lib.hid hp; clear hp
      have R1 := Lib.hid r1; clear r1
      have R2 := Lib.hid r2; clear r2
      have Hres := Lib.hid hres; clear hres
      have H35 := Lib.hid h35; clear h35
      have H46 := Lib.hid h46; clear h46
      have Hc := Lib.hid hc; clear hc
      go_enter Try.func94, Try.ntmps94
      go_wp2
      go_ret2
      exact Hres.out _ S.below
    · have t3 : ((t[n].toNat : Int) != 40) = true := byte_ne hc
      clear h hs h40
      have Hp := Lib.hid hp; clear hp
      have R1 := Lib.hid r1; clear r1
      have R2 := Lib.hid r2; clear r2
      have Hres := Lib.hid hres; clear hres
      have H35 := Lib.hid h35; clear h35
      have H46 := Lib.hid h46; clear h46
      have Hc := Lib.hid hc; clear hc
      go_enter Try.func94, Try.ntmps94
      go_wp2
      go_ret2
      exact Hres.out _ S.below
  · have hge : (t.size : Int) ≤ (n : Int) := by omega
    clear h hs
    have Hp := Lib.hid hp; clear hp
    have R1 := Lib.hid r1; clear r1
    have R2 := Lib.hid r2; clear r2
    have Hres := Lib.hid hres; clear hres
    go_enter Try.func94, Try.ntmps94
    go_wp2
    go_ret2
    exact Hres.out _ S.below
/- A leaf begins here. -/
set_option maxRecDepth 100000 in
set_option maxHeartbeats 2000000 in
theorem readSquare_leaf (t : ByteArray) (k n x y : Nat) (s : Int) (p : ByteArray) (b : Bool) (w : World) (ht : t.size ≤ maxLen) (hs : s = ((2 ^ k : Nat) : Int)) (hn : n < t.size) (hc : t[n] = colB b) :
    Calls Try.prog 94 #[.string t, .int .i64 n, .agg #[.int .i64 x, .int .i64 y, .int .i64 s], .string p] w (SqOut 83 t k n x y p w) := by
  unfold maxLen at ht
  have hp := rC_leaf (k := k) hn b hc
  obtain ⟨r1, r2⟩ := rs_some hp x y p
  have hn0 : (0 : Int) ≤ (n : Int) := Int.natCast_nonneg _
  have hn1 : (n : Int) < (t.size : Int) := by omega
  have S := (Since.refl w).alloc (.cells #[.int .i64 x, .int .i64 y, .int .i64 s] 81)
  have B := Blk.new w #[.int .i64 x, .int .i64 y, .int .i64 s] 81
  have hres : ∀ w1, Below w.heap.size w w1 → SqOut 83 t k n x y p w (.returned (.tuple #[.slice (some ⟨w1.heap.size, 0, none⟩) 1 1, .int .i64 ((n : Int) + 1)])) ((w1.alloc (.cells #[.int .i64 x, .int .i64 y, .int .i64 s, .bool b, .string p] 83)).drew) := by
    intro w1 hb
    refine ⟨(hb.alloc hb.size _).drew, _, by rw [r1]; rfl, ?_⟩
    rw [r2]
    refine OwnLeaves.bl ?_ (bl_drew _)
    have := (OwnLeaves.one (im := true) (T := 83) (w := w1) ⟨x, y, 2 ^ k, b, p⟩).mono hb.size
    rw [hs]
    exact this
  cases b
  · have t1 : ((t[n].toNat : Int) == 35) = false := by rw [hc]; rfl
    have t2 : ((t[n].toNat : Int) == 46) = true := by rw [hc]; rfl
    have Hs := Lib.hid hs; clear hs
    have Hc := Lib.hid hc; clear hc
    have Hp := Lib.hid hp; clear hp
    have R1 := Lib.hid r1; clear r1
    have R2 := Lib.hid r2; clear r2
    have Hres := Lib.hid hres; clear hres
    go_enter Try.func94, Try.ntmps94
    go_upto_region 4 with (fail)
    have y0 := B.cell 0 rfl
    have y1 := B.cell 1 rfl
    have y2 := B.cell 2 rfl
    generalize w.alloc (.cells #[.int .i64 x, .int .i64 y, .int .i64 s] 81) = w0 at *
    have hwr : IntKind.i64.wrap ((n : Int) + 1) = (n : Int) + 1 := IntWalk.i64_in _ (by omega)
    go_region_held3 (fun w' => w'.cell? ⟨w.heap.size, 0, none⟩ = some (.int .i64 x) ∧ w'.cell? ⟨w.heap.size, 1, none⟩ = some (.int .i64 y) ∧ w'.cell? ⟨w.heap.size, 2, none⟩ = some (.int .i64 s))
      (first
        | exact ⟨y0, y1, y2⟩
        | exact ⟨(CellAt.bl (show CellAt w0 w.heap.size 0 (.int .i64 x) from y0) (bl_alloc _ _).drew).out, (CellAt.bl (show CellAt w0 w.heap.size 1 (.int .i64 y) from y1) (bl_alloc _ _).drew).out, (CellAt.bl (show CellAt w0 w.heap.size 2 (.int .i64 s) from y2) (bl_alloc _ _).drew).out⟩)
      ((fail))
    clear hwr
    go_wp2
    go_ret2
    exact Hres.out _ S.below
  · have t1 : ((t[n].toNat : Int) == 35) = true := by rw [hc]; rfl
    have t2 : ((t[n].toNat : Int) == 46) = false := by rw [hc]; rfl
    have Hs := Lib.hid hs; clear hs
    have Hc := Lib.hid hc; clear hc
    have Hp := Lib.hid hp; clear hp
    have R1 := Lib.hid r1; clear r1
    have R2 := Lib.hid r2; clear r2
    have Hres := Lib.hid hres; clear hres
    go_enter Try.func94, Try.ntmps94
    go_upto_region 4 with (fail)
    have y0 := B.cell 0 rfl
    have y1 := B.cell 1 rfl
    have y2 := B.cell 2 rfl
    generalize w.alloc (.cells #[.int .i64 x, .int .i64 y, .int .i64 s] 81) = w0 at *
    have hwr : IntKind.i64.wrap ((n : Int) + 1) = (n : Int) + 1 := IntWalk.i64_in _ (by omega)
    go_region_held3 (fun w' => w'.cell? ⟨w.heap.size, 0, none⟩ = some (.int .i64 x) ∧ w'.cell? ⟨w.heap.size, 1, none⟩ = some (.int .i64 y) ∧ w'.cell? ⟨w.heap.size, 2, none⟩ = some (.int .i64 s))
      (first
        | exact ⟨y0, y1, y2⟩
        | exact ⟨(CellAt.bl (show CellAt w0 w.heap.size 0 (.int .i64 x) from y0) (bl_alloc _ _).drew).out, (CellAt.bl (show CellAt w0 w.heap.size 1 (.int .i64 y) from y1) (bl_alloc _ _).drew).out, (CellAt.bl (show CellAt w0 w.heap.size 2 (.int .i64 s) from y2) (bl_alloc _ _).drew).out⟩)
      ((fail))
    clear hwr
    go_wp2
    go_ret2
    exact Hres.out _ S.below
end Go.Proofs.Ytnenogpagkepfaa
