/- Contracts of the reference's and the program's QuadCounts: what they have in common. -/
import Derived.Test.YtakoklldmdbphaaNearOf
import Derived.Test.YtakoklldmdbphaaLawIS
set_option linter.unusedVariables false
namespace Go.Proofs.Ytakoklldmdbphaa
open Go.RowKit

def b1 (b : Bool) : Int := if b then 1 else 0
theorem b1_bd (b : Bool) : 0 ≤ b1 b ∧ b1 b ≤ 1 := by cases b <;> simp [b1]
def qA (a b c d : Bool) (j : Nat) : Bool := match j with | 0 => a | 1 => b | 2 => c | _ => d
def qN (a b c d : Bool) : Nat → Int
  | 0 => 0
  | j + 1 => qN a b c d j + b1 (qA a b c d j)
theorem qN_bd (a b c d : Bool) (j : Nat) : 0 ≤ qN a b c d j ∧ qN a b c d j ≤ j := by
  induction j with
  | zero => simp [qN]
  | succ j ih => have := b1_bd (qA a b c d j); simp only [qN]; omega
theorem qN4 (a b c d : Bool) : qN a b c d 4 = b1 a + b1 b + b1 c + b1 d := by simp [qN, qA]
theorem qA_at (a b c d : Bool) (j : Nat) (h : j < 4) : (#[Value.bool a, Value.bool b, Value.bool c, Value.bool d] : Array Value)[j]? = some (.bool (qA a b c d j)) := by
  have h' : j = 0 ∨ j = 1 ∨ j = 2 ∨ j = 3 := by omega
  rcases h' with rfl | rfl | rfl | rfl <;> rfl
abbrev Tri := Int × Int × Int
def qstep (a b c d : Bool) (s : Tri) : Tri :=
  if qN a b c d 4 = 1 then (s.1 + 1, s.2.1, s.2.2) else if qN a b c d 4 = 3 then (s.1, s.2.1 + 1, s.2.2) else if qN a b c d 4 = 2 ∧ a = d then (s.1, s.2.1, s.2.2 + 1) else s
def qcs (W H : Nat) (f : Nat → Bool) : Nat → Tri
  | 0 => (0, 0, 0)
  | n + 1 =>
    let x : Int := ((n % (W + 1) : Nat) : Int) - 1
    let y : Int := ((n / (W + 1) : Nat) : Int) - 1
    qstep (px W H f x y) (px W H f (x + 1) y) (px W H f x (y + 1)) (px W H f (x + 1) (y + 1)) (qcs W H f n)
theorem qcs_at {W H : Nat} {f : Nat → Bool} {r s : Nat} (h : s < W + 1) (x y : Int) (hx : x = (s : Int) - 1) (hy : y = (r : Int) - 1) :
    qcs W H f (r * (W + 1) + (s + 1)) = qstep (px W H f x y) (px W H f (x + 1) y) (px W H f x (y + 1)) (px W H f (x + 1) (y + 1)) (qcs W H f (r * (W + 1) + s)) := by
  rw [← Nat.add_assoc, qcs, (at_mod h).1, (at_mod h).2, ← hx, ← hy]
theorem qcs_bd (W H : Nat) (f : Nat → Bool) (n : Nat) : (0 ≤ (qcs W H f n).1 ∧ (qcs W H f n).1 ≤ n) ∧ (0 ≤ (qcs W H f n).2.1 ∧ (qcs W H f n).2.1 ≤ n) ∧ (0 ≤ (qcs W H f n).2.2 ∧ (qcs W H f n).2.2 ≤ n) := by
  induction n with
  | zero => simp [qcs]
  | succ n ih =>
    rw [qcs]
    unfold qstep
    split
    · dsimp only; omega
    · split
      · dsimp only; omega
      · split
        · dsimp only; omega
        · omega
def tri (s : Tri) : List Int := [s.1, s.2.1, s.2.2]
def quadL (ss : List ByteArray) : List Int := if okPic ss then tri (qcs (wid ss) ss.length (bits ss) ((ss.length + 1) * (wid ss + 1))) else []
theorem quadL_len (ss : List ByteArray) : (quadL ss).length ≤ 1048576 := by unfold quadL tri; split <;> simp
theorem mul_289 {W H : Nat} (h1 : W ≤ 16) (h2 : H ≤ 16) : (H + 1) * (W + 1) ≤ 289 := Nat.mul_le_mul (by omega : H + 1 ≤ 17) (by omega : W + 1 ≤ 17)
theorem qstep1 {a b c d : Bool} {s : Tri} (h : qN a b c d 4 = 1) : qstep a b c d s = (s.1 + 1, s.2.1, s.2.2) := by rw [qstep, if_pos h]
theorem qstep3 {a b c d : Bool} {s : Tri} (h : qN a b c d 4 = 3) : qstep a b c d s = (s.1, s.2.1 + 1, s.2.2) := by rw [qstep, if_neg (by omega), if_pos h]
theorem qstep2 {a b c d : Bool} {s : Tri} (h : qN a b c d 4 = 2) (hd : (a == d) = true) : qstep a b c d s = (s.1, s.2.1, s.2.2 + 1) := by
  rw [qstep, if_neg (by omega), if_neg (by omega), if_pos ⟨h, by simpa using hd⟩]
theorem qstep2' {a b c d : Bool} {s : Tri} (hd : (a == d) = false) (h : qN a b c d 4 = 2) : qstep a b c d s = s := by
  rw [qstep, if_neg (by omega), if_neg (by omega), if_neg (by intro e; simp [e.2] at hd)]
theorem qstep0 {a b c d : Bool} {s : Tri} (h1 : qN a b c d 4 ≠ 1) (h2 : qN a b c d 4 ≠ 2) (h3 : qN a b c d 4 ≠ 3) : qstep a b c d s = s := by
  rw [qstep, if_neg h1, if_neg h3, if_neg (by intro e; exact h2 e.1)]
/-- The row of counts in block g. -/
def TriAt (w : World) (g : Nat) (s : Tri) : Prop := Blk w g #[.int .i64 s.1, .int .i64 s.2.1, .int .i64 s.2.2] 2
theorem TriAt.bl {w w' : World} {g : Nat} {s : Tri} (h : TriAt w g s) (hb : Below w.heap.size w w') : TriAt w' g s := Blk.bl h hb
theorem TriAt.s0 {w : World} {g : Nat} {s : Tri} (h : TriAt w g s) (x : Int) : TriAt (w.setCell ⟨g, 0, none⟩ (.int .i64 x)) g (x, s.2.1, s.2.2) := Blk.set h 0 _
theorem TriAt.s1 {w : World} {g : Nat} {s : Tri} (h : TriAt w g s) (x : Int) : TriAt (w.setCell ⟨g, 1, none⟩ (.int .i64 x)) g (s.1, x, s.2.2) := Blk.set h 1 _
theorem TriAt.s2 {w : World} {g : Nat} {s : Tri} (h : TriAt w g s) (x : Int) : TriAt (w.setCell ⟨g, 2, none⟩ (.int .i64 x)) g (s.1, s.2.1, x) := Blk.set h 2 _
theorem TriAt.cells {w : World} {g : Nat} {s : Tri} (h : TriAt w g s) : w.cell? ⟨g, 0, none⟩ = some (.int .i64 s.1) ∧ w.cell? ⟨g, 1, none⟩ = some (.int .i64 s.2.1) ∧ w.cell? ⟨g, 2, none⟩ = some (.int .i64 s.2.2) ∧
    w.frozen? ⟨g, 0, none⟩ = false ∧ w.frozen? ⟨g, 1, none⟩ = false ∧ w.frozen? ⟨g, 2, none⟩ = false :=
  ⟨Blk.cell h 0 rfl, Blk.cell h 1 rfl, Blk.cell h 2 rfl, Blk.frozen h 0, Blk.frozen h 1, Blk.frozen h 2⟩
theorem TriAt.own {w : World} {g B : Nat} {s : Tri} (h : TriAt w g s) (hB : B ≤ g) : OwnInts B w (.slice (some ⟨g, 0, none⟩) 3 3) (tri s) :=
  OwnInts.of_blk (tri s) h rfl hB (by simp [maxLen])
theorem TriAt.new (w : World) : TriAt (w.alloc (.cells (madeCells #[.int .i64 0] 3) 2)) w.heap.size (0, 0, 0) := by
  have e : madeCells #[Value.int .i64 0] 3 = #[Value.int .i64 0, Value.int .i64 0, Value.int .i64 0] := by kernel_rfl
  rw [e]
  exact Blk.new w _ _
set_option maxHeartbeats 400000 in
theorem oneIf_b1 (b : Bool) (w : World) : Calls Try.prog 78 #[.bool b] w fun e w' => e = .returned (.int .i64 (b1 b)) ∧ w = w' := by
  cases b
  all_goals
    go_enter Try.func78, Try.ntmps78
    go_wp2
    go_ret
    exact ⟨rfl, rfl⟩
end Go.Proofs.Ytakoklldmdbphaa
